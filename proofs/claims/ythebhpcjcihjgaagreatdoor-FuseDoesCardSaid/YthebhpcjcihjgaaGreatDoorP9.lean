/- The texts that the card needs, part 10. -/
import Derived.Test.YthebhpcjcihjgaaGreatDoorP8
set_option linter.all false
section
namespace Go.Km
open Go Go.Vc Go.Proofs Go.ab Go.Proofs.YthebhpcjcihjgaaGreatDoor
set_option maxRecDepth 100000
set_option maxHeartbeats 0
instance(a b c:Bool):C 189 [.ag [boF a,boF b,boF c]] (boF (a||b)) true True:=⟨fun _=>by
 refine kf rfl rfl ?_;repeat' first|exact k9|refine k2 ?_|apply kA|apply kI;intro hc|refine k8 ?_|apply kL;intro hl
 ·subst hc;exact aa.b rfl rfl
 ·subst hc;exact aa.b rfl rfl⟩
instance(l:List Fl):C 187 [eF l] (flF (sJ l)) true (l.length≤17592186044416):=⟨fun h=>by
 refine kf rfl rfl ?_;repeat' first|exact k9|refine k2 ?_|apply kA|apply kI;intro hc|refine k8 ?_|apply kL;intro hl
 apply kCt [0,2,3,4,5,6] [];conv=>whnf
 refine Lp.ind (fun x:Nat×Fl×Bool=>l.length - x.1) (fun x=>x.1≤l.length∧(l.take x.1).foldl nC (⟨true,false,false⟩,true)=x.2) (fun x=>[(6,InD x.1),(5,BoD x.2.1.some),(4,BoD x.2.2)]) (fun x=>[(1,.va 0 181 [.fr (boF x.2.1.zero),.fr (boF false),.fr (boF x.2.1.fail)])]) (fun _=>_) (0,⟨true,false,false⟩,true) ⟨Oq _,rfl⟩ rfl rfl rfl ?_
 rintro G ⟨i,⟨z,s,f⟩,q⟩ ih ⟨hil,hT⟩
 dsimp only at hil hT ih ⊢
 by_cases hx:i<l.length
 ·obtain⟨⟨kz,ks,kf⟩,hk⟩:∃k,k=l[i]:=⟨_,rfl⟩
  have hki:∀h:i<l.length,l[i]'h=⟨kz,ks,kf⟩:=fun _=>hk.symm
  have hS:(l.take (i+1)).foldl nC (⟨true,false,false⟩,true)=nC (⟨z,s,f⟩,q) ⟨kz,ks,kf⟩:=by
   rw[List.take_succ_eq_append_getElem hx,List.foldl_append,hT,←hk];rfl
  cases q<;>cases kf<;>cases z<;>cases s
  all_goals
   repeat' first|exact k9|refine k2 ?_|apply kA|apply kI;intro hc|apply kL;intro hl|((simp only[hki])<;>conv=>whnf)|refine k8 ?_|fail
   all_goals first
    | (exfalso;simp only[hki,reduceCtorEq] at *;done)
    | (
      apply kCt [0,2,3,4,5,6] [];conv=>whnf
      exact ih (i+1,_) _ _ _ (by dsimp only;omega) ⟨by dsimp only;omega,hS⟩ rfl rfl (by cases f<;>rfl))
 ·obtain rfl:i=l.length:=by omega
  rw[OU] at hT;have e:sJ l=⟨z,s&&q,f⟩:=by rw[sJ,Ei,hT]
  rw[e]
  repeat' first|exact k9|refine k2 ?_|apply kA|apply kI;intro hc|refine k8 ?_|apply kL;intro hl
  all_goals
   subst_vars
   refine aa.j ?_ rfl
   first|rfl|(simp;done)|(cases s<;>rfl)⟩
instance(l:List Fl):C 188 [eF l] (flF (z8 l)) true (l.length≤17592186044416):=⟨fun h=>by
 refine kf rfl rfl ?_;repeat' first|exact k9|refine k2 ?_|apply kA|apply kI;intro hc|refine k8 ?_|apply kL;intro hl
 apply kCt [0,2,3,4,5] [];conv=>whnf
 refine Lp.ind (fun x:Nat×Fl=>l.length - x.1) (fun x=>x.1≤l.length∧(l.take x.1).foldl rW ⟨false,false,true⟩=x.2) (fun x=>[(5,InD x.1),(4,BoD x.2.fail)]) (fun x=>[(1,.va 0 181 [.fr (boF x.2.zero),.fr (boF x.2.some),.fr (boF false)])]) (fun _=>_) (0,⟨false,false,true⟩) ⟨Oq _,rfl⟩ rfl rfl rfl ?_
 rintro G ⟨i,⟨z,s,f⟩⟩ ih ⟨hil,hT⟩
 dsimp only at hil hT ih ⊢
 by_cases hx:i<l.length
 ·obtain⟨⟨kz,ks,kf⟩,hk⟩:∃k,k=l[i]:=⟨_,rfl⟩
  have hki:∀h:i<l.length,l[i]'h=⟨kz,ks,kf⟩:=fun _=>hk.symm
  have hS:(l.take (i+1)).foldl rW ⟨false,false,true⟩=rW ⟨z,s,f⟩ ⟨kz,ks,kf⟩:=by
   rw[List.take_succ_eq_append_getElem hx,List.foldl_append,hT,←hk];rfl
  cases f<;>cases z<;>cases s
  all_goals
   repeat' first|exact k9|refine k2 ?_|apply kA|apply kI;intro hc|apply kL;intro hl|((simp only[hki])<;>conv=>whnf)|refine k8 ?_|fail
   all_goals first
    | (exfalso;simp only[hki,reduceCtorEq] at *;done)
    | (
      apply kCt [0,2,3,4,5] [];conv=>whnf
      exact ih (i+1,_) _ _ _ (by dsimp only;omega) ⟨by dsimp only;omega,hS⟩ rfl rfl rfl)
 ·obtain rfl:i=l.length:=by omega
  rw[OU] at hT;rw[z8,hT]
  repeat' (first|exact k9|refine k2 ?_|apply kA|apply kI;intro hc|refine k8 ?_|apply kL;intro hl)⟩
end Go.Km
end
section
namespace Go.ab
open Go Go.Km
def Fo.gF(g:List Dfn)(l:List Fl):Fo→List Fl
 | .nil=>[]
 | .cons n k r=>bz n (k.gF g l) (dX g l n.text) :: r.gF g l
theorem Fo.wK(g:List Dfn)(l:List Fl):∀F G:Fo,(F.app G).gF g l=F.gF g l++G.gF g l
 | .nil,G=>rfl
 | .cons n k r,G=>by simp only[Fo.app,Fo.gF,Fo.wK g l r G,List.cons_append]
theorem Eh(g:List Dfn)(l:List Fl)(ns:List Nod):∀m,aG g l ns=aG g l (ns.take m)++(aG g l ns).drop m:=by
 intro m;have h:∀(b:List Nod) (a:List Fl),∃c,b.foldl (ir g l) a=a++c:=by
  intro b
  induction b with
  | nil=>intro a;exact⟨[],by simp⟩
  | cons n b ih=>
   intro a;obtain⟨c,hc⟩:=ih (ir g l a n);exact⟨_,by rw[PJ,hc,ir,List.append_assoc]⟩
 obtain⟨c,hc⟩:=h (ns.drop m) (aG g l (ns.take m));have e:aG g l ns=aG g l (ns.take m)++c:=by
  rw[←hc];conv=>lhs;rw[←List.take_append_drop m ns]
  rw[aG,List.foldl_append];rfl
 by_cases hm:m≤ns.length
 ·have hl:(aG g l (ns.take m)).length=m:=by rw[cE,Ou];omega
  have:(aG g l ns).drop m=c:=by rw[e,List.drop_left' hl]
  rw[this];exact e
 ·rw[Om (by omega),OE (by rw[cE];omega),Oj]
theorem tq(g:List Dfn)(l:List Fl)(ns:List Nod){m k:Nat}(hk:k<m)(hm:m≤ns.length):(aG g l ns).getD k .bot=(aG g l (ns.take m)).getD k .bot:=by
 have hl:(aG g l (ns.take m)).length=m:=by rw[cE,Ou];omega
 rw[Eh g l ns m,List.getD_eq_getElem?_getD,O6 (by omega),←List.getD_eq_getElem?_getD]
theorem GI(g:List Dfn)(l:List Fl){ns:List Nod}{i:Nat}(hi:i<ns.length)(hk:∀k∈ns[i].kids,0≤k∧k<(i:Int)):(aG g l ns).getD i .bot=bz ns[i] (a8 (aG g l ns) ns[i].kids) (dX g l ns[i].text):=by
 have hl:(aG g l (ns.take i)).length=i:=by rw[cE,Ou];omega
 rw[tq g l ns (m:=i+1) (by omega) (by omega),rE g l hi,ow,if_neg (by omega),if_pos (by omega)]
 congr 1
 refine Pk fun k hkk=>?_;have:=hk k hkk;rw[tq g l ns (m:=i) (by omega) (by omega)]
theorem zS(n:Nod)(ks:List Int)(l:List Fl)(r:Fl):bz { n with kids:=ks } l r=bz n l r:=rfl
theorem Fo.og(g:List Dfn)(l:List Fl){ns:List Nod}(hf:0<ns.length):∀ks:List Int,(aF ns ns.length ks).gF g l=ks.map fun k=>hd0 ((aF ns ns.length [k]).gF g l)
 | []=>by rw[aA];rfl
 | k :: ks=>by
  rw[bk k ks hf,Fo.wK,Fo.og g l hf ks];obtain⟨j,hj⟩:=ew (ns:=ns) (f:=ns.length) k hf;rw[hj];simp only[OB,hj];rfl
theorem uF(g:List Dfn)(l:List Fl){ns:List Nod}(hk:KOk ns):∀i:Nat,i<ns.length→(aG g l ns).getD i .bot=hd0 ((aF ns ns.length [(i:Int)]).gF g l):=by
 intro i
 induction i using Nat.strongRecOn with
 | ind i ih=>
  intro hi;have hki:=hk i _ (Oe hi);rw[GI g l hi hki,gl hk.ah (by omega) (by omega),Fo.gF,Fo.og g l (by omega),←aM (Oe hi)];have hd:dat ns (i:Int)={ ns[i] with kids:=[] }:=by simp[dat,List.getD_eq_getElem?_getD,hi]
  rw[hd,zS];show _=bz ns[i] _ (dX g l ns[i].text)
  congr 1
  refine Pk fun k hkk=>?_;have:=hki k hkk;obtain⟨q,rfl⟩:∃q:Nat,k=q:=⟨k.toNat,by omega⟩
  exact ih q (by omega) (by omega)
theorem v7(g:List Dfn)(l:List Fl){t:Tre}(hR:ax t):bM g l t=hd0 ((foT t).gF g l):=by
 have hr:=hR.root;obtain⟨q,hq⟩:∃q:Nat,t.root=q:=⟨t.root.toNat,by omega⟩
 rw[bM,foT,hq,Oo];exact uF g l hR.kok q (by omega)
def Fo.cU(g:List Dfn)(l:List Fl)(s:Bool):Fo→List ByteArray
 | .nil=>[]
 | .cons n k r=>(if n.kind=3 then [n.text] else if n.kind=6∧n.max=0 then [] else k.cU g l (decide (n.kind=4)))++(if (s && !(bz n (k.gF g l) (dX g l n.text)).zero)=true then [] else r.cU g l s)
def Fo.loops(g:List Dfn)(l:List Fl):Fo→Bool
 | .nil=>false
 | .cons n k r=>(decide (n.kind=6)&&decide (n.max=-1)&&(hd0 (k.gF g l)).zero)||k.loops g l||r.loops g l
def iX(g:List Dfn)(i:Nat):List Nat:=match g[i]? with
 | some d=>((foT d.body).cU g (cz g) false).filterMap (bf g)
 | none=>[]
def cL(g:List Dfn)(i:Nat):Bool:=match g[i]? with
 | some d=>(foT d.body).loops g (cz g)
 | none=>false
def bB(l m:List Nat):List Nat:=m.foldl (fun l j=>if j∈l then l else l++[j]) l
def sC(adj:Nat→List Nat):Nat→Nat→List Nat→List Nat
 | 0,_,l=>l
 | f+1,k,l=>match l[k]? with
  | some x=>sC adj f (k+1) (bB l (adj x))
  | none=>l
def gr(g:List Dfn)(i:Nat):Bool:=decide (i∈sC (iX g) (2 * g.length+(iX g i).length) 0 (iX g i))
def c9(p:Nat→Bool):Nat→Nat→Option Nat
 | 0,_=>none
 | n+1,i=>if p i=true then some i else c9 p n (i+1)
def gQ(g:List Dfn):Int×Int:=
 if b4 g=0 then (match c9 (gr g) g.length 0 with
  | some i=>((i:Int),42)
  | none=>(match c9 (cL g) g.length 0 with
   | some i=>((i:Int),43)
   | none=>(0,0)))
 else (0,b4 g)
def dL(g:List Dfn):Int:=(gQ g).2
inductive l8(r:Nat→Nat→Prop):Nat→Nat→Prop
 | one {a b:Nat}:r a b→l8 r a b
 | more {a b c:Nat}:l8 r a b→r b c→l8 r a c
theorem l8.trans{r:Nat→Nat→Prop}{a b c:Nat}(h:l8 r a b)(k:l8 r b c):l8 r a c:=by
 induction k with
 | one k=>exact .more h k
 | more _ k ih=>exact .more ih k
theorem gT:∀(m l:List Nat) (x:Nat),x∈bB l m↔x∈l∨x∈m
 | [],l,x=>by simp[bB]
 | j :: m,l,x=>by
  rw[bB,PJ,←bB,gT m]
  split
  ·rename_i h
   constructor
   ·rintro(h1|h1)
    ·exact .inl h1
    ·exact .inr (ON _ h1)
   ·rintro(h1|h1)
    ·exact .inl h1
    ·rcases OD.1 h1 with rfl|h1
     ·exact .inl h
     ·exact .inr h1
  ·simp only[Oy,OD,Pz,or_assoc,false_or]
theorem lb:∀(m l:List Nat),∃c,bB l m=l++c
 | [],l=>⟨[],by simp[bB]⟩
 | j :: m,l=>by
  rw[bB,PJ,←bB]
  split
  ·exact lb m l
  ·obtain⟨c,hc⟩:=lb m (l++[j]);exact⟨[j]++c,by rw[hc,List.append_assoc]⟩
structure oN(adj:Nat→List Nat)(i n0 n:Nat)(k:Nat)(l:List Nat):Prop where
 le:k≤l.length
 sound:∀x∈l,l8 (fun a b=>b∈adj a) i x
 first:∀x∈adj i,x∈l
 done:∀(j:Nat) (h:j<k) (hj:j<l.length),∀x∈adj l[j],x∈l
 nd:(l.drop n0).Nodup
 len:n0≤l.length
 rng:∀x∈l,x<n
theorem qH{n0:Nat}:∀(m l:List Nat),(l.drop n0).Nodup→n0≤l.length→((bB l m).drop n0).Nodup∧n0≤(bB l m).length
 | [],l,h,e=>⟨h,e⟩
 | j :: m,l,h,e=>by
  rw[bB,PJ,←bB]
  split
  ·exact qH m l h e
  ·rename_i hj;refine qH m (l++[j]) ?_ (by simp;omega);rw[P8 e,QK];exact⟨h,by simp,fun a ha b hb=>by simp at hb;subst hb;exact fun q=>hj (q▸OM ha)⟩
theorem oN.step{adj:Nat→List Nat}{i n0 n k:Nat}{l:List Nat}(h:oN adj i n0 n k l)(hk:k<l.length)(ha:∀a<n,∀x∈adj a,x<n):oN adj i n0 n (k+1) (bB l (adj l[k])):=by
 obtain⟨c,hc⟩:=lb (adj l[k]) l;obtain⟨q1,q2⟩:=qH (adj l[k]) l h.nd h.len;refine⟨by rw[hc];simp;omega,fun x hx=>?_,fun x hx=>(gT _ _ _).2 (.inl (h.first x hx)),fun j hj hjl x hx=>?_,q1,q2,fun x hx=>?_⟩
 ·rcases(gT _ _ _).1 hx with hx|hx
  ·exact h.sound x hx
  ·exact .more (h.sound _ (Of hk)) hx
 ·have hjl2:j<l.length:=by omega
  have e:(bB l (adj l[k]))[j]=l[j]:=by simp only[hc];rw[PT hjl2]
  rw[e] at hx
  by_cases ej:j=k
  ·subst ej;exact(gT _ _ _).2 (.inr hx)
  ·exact(gT _ _ _).2 (.inl (h.done j (by omega) hjl2 x hx))
 ·rcases(gT _ _ _).1 hx with hx|hx
  ·exact h.rng x hx
  ·exact ha _ (h.rng _ (Of hk)) x hx
theorem oN.bound{adj:Nat→List Nat}{i n0 n k:Nat}{l:List Nat}(h:oN adj i n0 n k l):l.length≤n0+n:=by
 have h1:(l.drop n0).length≤(List.range n).length:=List.Nodup.length_le_of_subset h.nd (fun x hx=>Pf.2 (h.rng x (OM hx)));simp at h1;have:=h.len;omega
theorem oN.end_{adj:Nat→List Nat}{i n0 n:Nat}{l:List Nat}(h:oN adj i n0 n l.length l)(x:Nat):x∈l↔l8 (fun a b=>b∈adj a) i x:=by
 refine⟨h.sound x,fun hp=>?_⟩
 induction hp with
 | one h1=>exact h.first _ h1
 | more _ h2 ih=>
  obtain⟨j,hj,rfl⟩:=OT ih;exact h.done j hj hj _ h2
theorem oN.zero{adj:Nat→List Nat}{i n:Nat}(hi:i<n)(ha:∀a<n,∀x∈adj a,x<n):oN adj i (adj i).length n 0 (adj i):=⟨Oq _,fun x hx=>.one hx,fun x hx=>hx,fun j h=>by omega,by simp,Ov _,fun x hx=>ha i hi x hx⟩
theorem ru{adj:Nat→List Nat}{i n0 n:Nat}(ha:∀a<n,∀x∈adj a,x<n):∀(f k:Nat) (l:List Nat),oN adj i n0 n k l→n0+n≤f+k→∃l',sC adj f k l=l'∧oN adj i n0 n l'.length l'
 | 0,k,l,h,hf=>by
  have h1:=h.bound;have h2:=h.le;obtain rfl:k=l.length:=by omega
  exact⟨l,rfl,h⟩
 | f+1,k,l,h,hf=>by
  rw[sC]
  by_cases hk:k<l.length
  ·rw[Oe hk];exact ru ha f (k+1) _ (h.step hk ha) (by omega)
  ·have h2:=h.le;obtain rfl:k=l.length:=by omega
   rw[OG (Ov _)];exact⟨l,rfl,h⟩
theorem w8(g:List Dfn)(a:Nat):∀x∈iX g a,x<g.length:=by
 intro x hx;unfold iX at hx
 split at hx
 ·obtain⟨s,_,hs⟩:=QZ.1 hx;exact(fM hs).1
 ·cases hx
theorem wj{g:List Dfn}{i:Nat}(hi:i<g.length):gr g i=true↔l8 (fun a b=>b∈iX g a) i i:=by
 have ha:∀a<g.length,∀x∈iX g a,x<g.length:=fun a _ x hx=>w8 g a x hx
 obtain⟨l',h1,h2⟩:=ru ha (2 * g.length+(iX g i).length) 0 _ (oN.zero hi ha) (by omega);rw[gr,decide_eq_true_iff,h1];exact h2.end_ i
theorem jM{p:Nat→Bool}:∀{n i:Nat},c9 p n i=none↔∀j,i≤j→j<i+n→p j=false
 | 0,i=>by simp[c9];omega
 | n+1,i=>by
  rw[c9]
  split
  ·rename_i h;refine⟨fun q=>(by cases q),fun q=>?_⟩;rw[q i (Ov _) (by omega)] at h
   cases h
  ·rename_i h;rw[jM];refine⟨fun q j h1 h2=>?_,fun q j h1 h2=>q j (by omega) (by omega)⟩
   by_cases e:j=i
   ·subst e;simpa using h
   ·exact q j (by omega) (by omega)
theorem mD{p:Nat→Bool}:∀{n i k:Nat},c9 p n i=some k→i≤k∧k<i+n∧p k=true∧∀j,i≤j→j<k→p j=false
 | 0,i,k,h=>by simp[c9] at h
 | n+1,i,k,h=>by
  rw[c9] at h
  split at h
  ·rename_i hp
   cases h;exact⟨Ov _,by omega,hp,fun j h1 h2=>by omega⟩
  ·rename_i hp;obtain⟨h1,h2,h3,h4⟩:=mD h;refine⟨by omega,by omega,h3,fun j h5 h6=>?_⟩
   by_cases e:j=i
   ·subst e;simpa using hp
   ·exact h4 j (by omega) h6
end Go.ab
end
section
namespace Go.ab
open Go
def wdN(p:Nat→Bool):Nat→Nat
 | 0=>0
 | n+1=>wdN p n ||| (if p n=true then 2 ^ n else 0)
def wdI(p:Nat→Bool):Int:=(wdN p 64:Int)
theorem eZ(p:Nat→Bool):∀n j:Nat,(wdN p n).testBit j=(decide (j<n)&&p j)
 | 0,j=>by simp[wdN]
 | n+1,j=>by
  rw[wdN,Nat.testBit_or,eZ p n j]
  by_cases hp:p n=true
  ·rw[if_pos hp,Nat.testBit_two_pow]
   by_cases e:n=j
   ·subst e;simp[hp]
   ·simp only[e,decide_false,Ro]
    congr 1
    exact decide_eq_decide.2 (by omega)
  ·rw[if_neg hp,Nat.zero_testBit,Ro]
   by_cases e:n=j
   ·subst e;simp[hp]
   ·congr 1
    exact decide_eq_decide.2 (by omega)
theorem oH(p:Nat→Bool)(n:Nat):wdN p n<2 ^ n:=by
 refine Nat.lt_pow_two_of_testBit _ fun i hi=>?_;rw[eZ];simp;omega
theorem uT{m:Nat}(h:m<18446744073709551616):IntKind.u64.wrap (m:Int)=(m:Int):=by
 exact Go.Vc.wrap_u64 (by omega)
theorem pE(p:Nat→Bool):BitVec.ofInt 64 (wdI p)=BitVec.ofNat 64 (wdN p 64):=by
 rw[wdI,PY]
theorem mH{p q:Nat→Bool}(h:∀j<64,p j=q j):wdI p=wdI q:=by
 unfold wdI
 congr 1
 refine Qr fun j=>?_;rw[eZ,eZ]
 by_cases e:j<64
 ·rw[h j e]
 ·simp[e]
theorem LM{p q:Nat→Bool}(h:wdI p=wdI q):∀j<64,p j=q j:=fun j hj=>by
 have e:wdN p 64=wdN q 64:=by unfold wdI at h;omega
 have:=congrArg (fun n=>Nat.testBit n j) e;simpa [eZ,hj] using this
theorem DM(p q:Nat→Bool):IntKind.u64.wrap ((BitVec.ofInt IntKind.u64.bits (wdI p) ||| BitVec.ofInt IntKind.u64.bits (wdI q)).toNat:Int)=wdI fun j=>p j||q j:=by
 show IntKind.u64.wrap ((BitVec.ofInt 64 (wdI p) ||| BitVec.ofInt 64 (wdI q)).toNat:Int)=_
 rw[pE,pE,BitVec.toNat_or,PC,PC,Py (oH p 64),Py (oH q 64)];have e:wdN p 64 ||| wdN q 64=wdN (fun j=>p j||q j) 64:=by
  refine Qr fun j=>?_;rw[Nat.testBit_or,eZ,eZ,eZ]
  cases decide (j<64)<;>simp
 rw[e,uT (oH _ 64)];rfl
theorem Kv(p q:Nat→Bool):IntKind.u64.wrap ((BitVec.ofInt IntKind.u64.bits (wdI p) &&& BitVec.ofInt IntKind.u64.bits (wdI q)).toNat:Int)=wdI fun j=>p j&&q j:=by
 show IntKind.u64.wrap ((BitVec.ofInt 64 (wdI p) &&& BitVec.ofInt 64 (wdI q)).toNat:Int)=_
 rw[pE,pE,Ri,PC,PC,Py (oH p 64),Py (oH q 64)];have e:wdN p 64 &&& wdN q 64=wdN (fun j=>p j&&q j) 64:=by
  refine Qr fun j=>?_;rw[Nat.testBit_and,eZ,eZ,eZ]
  cases decide (j<64)<;>simp
 rw[e,uT (oH _ 64)];rfl
theorem Cd{k:Nat}(h:k<64):IntKind.u64.wrap (1 * 2 ^ (min ((k:Nat):Int).toNat IntKind.u64.bits))=wdI fun j=>decide (j=k):=by
 have e:wdN (fun j=>decide (j=k)) 64=2 ^ k:=by
  refine Qr fun j=>?_;rw[eZ,Nat.testBit_two_pow]
  by_cases q:j=k
  ·subst q;simp[h]
  ·have:¬k=j:=fun e=>q e.symm
   simp[q,this]
 rw[show min ((k:Nat):Int).toNat IntKind.u64.bits=k by rw[Oo];exact O5 (Nat.le_of_lt h),Int.one_mul,show((2:Int) ^ k)=((2 ^ k:Nat):Int) by simp,wdI,e,uT];have:=Nat.pow_lt_pow_right (a:=2) (by decide) h;omega
theorem nj:wdI (fun _=>false)=0:=by decide +kernel
theorem H0(p:Nat→Bool){k:Nat}(h:k<64):IntKind.u64.wrap ((BitVec.ofInt IntKind.u64.bits ((wdI p).fdiv (2 ^ (min ((k:Nat):Int).toNat IntKind.u64.bits))) &&& BitVec.ofInt IntKind.u64.bits 1).toNat:Int)=if p k=true then 1 else 0:=by
 rw[show min ((k:Nat):Int).toNat IntKind.u64.bits=k by rw[Oo];exact O5 (Nat.le_of_lt h)];have hd:(wdI p).fdiv (2 ^ k)=((wdN p 64 / 2 ^ k:Nat):Int):=by
  rw[wdI,show((2:Int) ^ k)=((2 ^ k:Nat):Int) by simp];exact(Int.ofNat_fdiv _ _).symm
 rw[hd];show IntKind.u64.wrap ((BitVec.ofInt 64 ((wdN p 64 / 2 ^ k:Nat):Int) &&& BitVec.ofInt 64 1).toNat:Int)=_
 have hl:wdN p 64 / 2 ^ k<2 ^ 64:=Nat.lt_of_le_of_lt (Nat.div_le_self _ _) (oH p 64);rw[PY,Ri,PC,Py hl,show(BitVec.ofInt 64 1).toNat=1 from rfl,Nat.and_one_is_mod];have hb:=eZ p 64 k;rw[Q4,decide_eq_true h,PG] at hb
 by_cases hp:p k=true
 ·rw[hp,decide_eq_true_iff] at hb;rw[if_pos hp,hb];rfl
 ·rw[if_neg hp];have:¬wdN p 64 / 2 ^ k % 2=1:=fun e=>hp (by rw[←hb,decide_eq_true e])
  have:wdN p 64 / 2 ^ k % 2=0:=by omega
  rw[this];rfl
end Go.ab
end
section
namespace Go.ab
open Go Go.Km
def lQ(X:List Fl)(n:Nod):Bool:=decide (n.kind=6)&&decide (n.max=-1)&&(hd0 (a8 X n.kids)).zero
def tQ(X:List Fl)(ns:List Nod):Bool:=ns.any (lQ X)
theorem Fo.oF(g:List Dfn)(l:List Fl){ns:List Nod}(hk:KOk ns):∀(f:Nat) (ks:List Int),(∀k∈ks,0≤k∧k<(f:Int))→f≤ns.length→((aF ns f ks).loops g l=true↔∃x∈dfs (ah ns) f ks,lQ (aG g l ns) (ns.getD x.toNat .zero)=true)
 | 0,ks,h,_=>by
  cases ks with
  | nil=>simp[aF,Fo.loops,dfs]
  | cons k ks=>have:=h k (by simp);omega
 | f+1,[],_,_=>by simp[aA,Fo.loops,dfs]
 | f+1,k :: ks,h,hf=>by
  have hkk:=h k (by simp);have hc:=hk.ah;obtain⟨q,rfl⟩:∃q:Nat,k=q:=⟨k.toNat,by omega⟩
  have hql:q<ns.length:=by omega
  have hch:∀x∈ah ns (q:Int),0≤x∧x<(f:Int):=fun x hx=>by have:=hc _ x hx;omega
  have ih1:=Fo.oF g l hk f (ah ns (q:Int)) hch (by omega);have ih2:=Fo.oF g l hk (f+1) ks (fun x hx=>h x (by simp[hx])) hf;have hdc:=aS (ch:=ah ns) hc (f:=f+1) (k:=(q:Int)) (l:=ks) hkk.1 hkk.2;have hfu:dfs (ah ns) (f+1) (ah ns (q:Int))=dfs (ah ns) f (ah ns (q:Int)):=pq hc _ _ _ (fun x hx=>by have:=hch x hx;omega) (fun x hx=>(hch x hx).2);have hnode:lQ (aG g l ns) (ns.getD ((q:Nat):Int).toNat .zero)=(decide ((dat ns (q:Int)).kind=6)&&decide ((dat ns (q:Int)).max=-1)&&(hd0 ((aF ns f (ah ns (q:Int))).gF g l)).zero):=by
   have e1:aF ns f (ah ns (q:Int))=aF ns ns.length (ah ns (q:Int)):=cN hc _ _ _ hch (fun x hx=>by have:=hch x hx;omega);have e2:ns.getD ((q:Nat):Int).toNat .zero=ns[q]:=by simp[List.getD_eq_getElem?_getD,hql]
   rw[e1,Fo.og g l (by omega)];simp only[lQ,dat,e2];rw[←aM (Oe hql)]
   congr 3
   refine Pk fun x hx=>?_;have:=hk q _ (Oe hql) x hx;obtain⟨p,rfl⟩:∃p:Nat,x=p:=⟨x.toNat,by omega⟩
   exact uF g l hk p (by omega)
  rw[aH,Fo.loops,hdc,hfu,Pp,Pp,ih1,ih2,←hnode];simp only[OD,Oy]
  constructor
  ·rintro((h1|⟨x,h1,h2⟩)|⟨x,h1,h2⟩)
   ·exact⟨_,.inl rfl,h1⟩
   ·exact⟨x,.inr (.inl h1),h2⟩
   ·exact⟨x,.inr (.inr h1),h2⟩
  ·rintro⟨x,(rfl|h1|h1),h2⟩
   ·exact .inl (.inl h2)
   ·exact .inl (.inr ⟨x,h1,h2⟩)
   ·exact .inr ⟨x,h1,h2⟩
theorem FI(g:List Dfn)(l:List Fl){t:Tre}(hR:ax t):tQ (aG g l t.nodes) t.nodes=(foT t).loops g l:=by
 have h:=Fo.oF g l hR.kok t.nodes.length [t.root] (by intro k hk;simp at hk;subst hk;exact hR.root) (Ov _);rw[OV,foT,h,tQ,Po]
 constructor
 ·rintro⟨n,hn,h1⟩
  obtain⟨i,hi,rfl⟩:=OT hn;refine⟨(i:Int),?_,?_⟩
  ·have:=ni hR (t.nodes.length) (i:Int) (by omega) (by omega) (by omega);rw[BV] at this;exact Qk.1 (by omega)
  ·simpa [List.getD_eq_getElem?_getD,hi] using h1
 ·rintro⟨x,hx,h1⟩
  have hb:=iU (ch:=ah t.nodes) hR.kok.ah t.nodes.length [t.root] (by intro k hk;simp at hk;subst hk;exact hR.root) x hx;have hl:x.toNat<t.nodes.length:=by omega
  refine⟨t.nodes[x.toNat],Of hl,?_⟩;simpa [List.getD_eq_getElem?_getD,hl] using h1
end Go.ab
namespace Go.Km
open Go Go.Vc Go.Proofs Go.ab Go.Proofs.YthebhpcjcihjgaaGreatDoor
set_option maxRecDepth 100000
set_option maxHeartbeats 0
instance(X:List Fl)(t:Tre):C 111 [aw t,eF X] (boF (tQ X t.nodes)) true (t.wf∧ax t∧X.length=t.nodes.length):=⟨fun ⟨hw,hR,hX0⟩=>by
 have hlen:=hw.len;simp only[b9] at hlen;refine kf rfl rfl ?_;repeat' first|exact k9|refine k2 ?_|apply kA|apply kI;intro hc|(apply Sn.go hX;conv=>whnf)|refine k8 ?_|apply kL;intro hl
 apply kCt [1,8,9,10] [];conv=>whnf
 refine Lp.ind (fun z:Nat=>t.nodes.length - z) (fun z=>z≤t.nodes.length∧∀(j:Nat) (hj:j<t.nodes.length),j<z→lQ X t.nodes[j]=false) (fun z=>[(10,InD z)]) (fun _=>[]) (fun _=>_) 0 ⟨Oq _,fun j hj h=>by omega⟩ rfl rfl rfl ?_
 rintro G i ih ⟨hi,hno⟩
 by_cases hx:i<t.nodes.length
 ·have hgo:lQ X t.nodes[i]=false→∀(j:Nat) (hj:j<t.nodes.length),j<i+1→lQ X t.nodes[j]=false:=fun h j hj hji=>by
   by_cases e:j=i
   ·subst e;exact h
   ·exact hno j hj (by omega)
  have hyes:lQ X t.nodes[i]=true→tQ X t.nodes=true:=fun h=>Po.2 ⟨t.nodes[i],Of hx,h⟩
  have hfit:=hR.fits i t.nodes[i] (Oe hx);have hko:=hR.kok i t.nodes[i] (Oe hx);obtain⟨kf1,kf2,kf3⟩:=nu hfit
  by_cases h6:t.nodes[i].kind=6
  ·have hk1:t.nodes[i].kids.length=1:=by have:=kf2 (by omega);omega
   obtain⟨q,hq⟩:∃q:Nat,t.nodes[i].kids=[(q:Int)]:=by
    obtain⟨x,hx1⟩:=P2.1 hk1;refine⟨x.toNat,?_⟩;have:=hko x (by rw[hx1];simp);rw[hx1]
    congr 1
    omega
   have hql:=hko (q:Int) (by rw[hq];simp);have hq0:∀h:0<t.nodes[i].kids.length,t.nodes[i].kids[0]'h=(q:Int):=fun h=>by simp only[hq];rfl
   have hloop:lQ X t.nodes[i]=(decide (t.nodes[i].max=-1)&&(X.getD q .bot).zero):=by
    rw[lQ,hq,decide_eq_true h6,PG];rfl
   have hxq:∀h:((q:Nat):Int).toNat<X.length,X[((q:Nat):Int).toNat]'h=X.getD q .bot:=fun h=>by
    rw[Oo] at h;simp[List.getD_eq_getElem?_getD,h]
   repeat' first|exact k9|refine k2 ?_|apply kA|apply kI;intro hc|apply kL;intro hl|(apply Sn.go hX;conv=>whnf)|((simp only[hq0])<;>conv=>whnf)|refine k8 ?_|fail
   ·have hm:t.nodes[i].max=-1:=by assumption
    have hz:=hc;rw[hxq] at hz;exact aa.b (hyes (by rw[hloop,decide_eq_true hm,hz];rfl)).symm rfl
   ·have hm:t.nodes[i].max=-1:=by assumption
    have hz:=hc;rw[hxq] at hz;apply kCt [1,8,9,10] [];conv=>whnf
    exact ih (i+1) _ _ _ (by omega) ⟨by omega,hgo (by rw[hloop,hz,RA])⟩ rfl rfl rfl
   ·have hm:=hc;apply kCt [1,8,9,10] [];conv=>whnf
    exact ih (i+1) _ _ _ (by omega) ⟨by omega,hgo (by rw[hloop,decide_eq_false hm];rfl)⟩ rfl rfl rfl
  ·have hloop:lQ X t.nodes[i]=false:=by rw[lQ,decide_eq_false h6];rfl
   repeat' first|exact k9|refine k2 ?_|apply kA|apply kI;intro hc|(apply Sn.go hX;conv=>whnf)|refine k8 ?_|apply kL;intro hl
   apply kCt [1,8,9,10] [];conv=>whnf
   exact ih (i+1) _ _ _ (by omega) ⟨by omega,hgo hloop⟩ rfl rfl rfl
 ·obtain rfl:i=t.nodes.length:=by omega
  have e:tQ X t.nodes=false:=by
   rw[tQ,Pn];intro n hn;obtain⟨j,hj,rfl⟩:=OT hn;simp[hno j hj hj]
  rw[e]
  repeat' (first|exact k9|refine k2 ?_|apply kA|apply kI;intro hc|(apply Sn.go hX;conv=>whnf)|refine k8 ?_|apply kL;intro hl)⟩
abbrev wdF(p:Nat→Bool):F:=.vl (.int .u64 (wdI p))
def Ab(p:Nat→Bool):List Int:=((List.range 64).filter p).map Int.ofNat
instance(p:Nat→Bool):C 75 [wdF p] (isF (Ab p)) true True:=⟨fun _=>by
 obtain⟨w,hw⟩:=exEq (wdI p);have hb:∀{k:Nat} (h:k<64),_:=fun {k} h=>H0 p h
 simp only[wdF];rw[←hw] at hb ⊢;refine kf rfl rfl ?_;repeat' first|exact k9|refine k2 ?_|apply kA|apply kI;intro hc|(apply Sn.go hX;conv=>whnf)|refine k8 ?_|apply kL;intro hl
 apply Stp.fW 3 3 1 rfl rfl;apply kCt [0,3,5] [];conv=>whnf
 refine Lp.ind (fun z:Nat=>64 - z) (fun z=>z≤64) (fun z=>[(5,InD z)]) (fun z=>[(0,.ro 0 3 1 ((((List.range z).filter p).map Int.ofNat).map ikF))]) (fun _=>_) 0 (Oq _) rfl rfl rfl ?_
 rintro G i ih hi
 have hfl:(((List.range i).filter p).map Int.ofNat).length≤64:=by
  rw[Ok];exact OA (PU _ _) (by rw[Pw];exact hi)
 by_cases hx:i<64
 ·have hbi:=hb hx;have hsn:∀c:Bool,p i=c→((List.range (i+1)).filter p).map Int.ofNat=((List.range i).filter p).map Int.ofNat++(if c=true then [(i:Int)] else []):=fun c h=>by
   rw[Qv,PD,List.map_append]
   cases c<;>simp[h]
  obtain⟨L,hL⟩:=exEq (((List.range i).filter p).map Int.ofNat);rw[←hL] at hfl hsn ⊢
  repeat' first|exact k9|refine k2 ?_|apply kA|apply kI;intro hc|(apply Sn.go hX;conv=>whnf)|refine k8 ?_|apply kL;intro hl
  ·have h0:=hc;rw[hbi] at h0;have hp:p i=false:=by
    cases e:p i with
    | false=>rfl
    | true=>rw[e] at h0;cases h0
   apply kCt [0,3,5] [];conv=>whnf
   refine ih (i+1) _ _ _ (by omega) (by omega) rfl rfl ?_;rw[hsn false hp,if_neg (by decide),Oj];rfl
  ·have h0:=hc;rw[hbi] at h0;have hp:p i=true:=by
    cases e:p i with
    | true=>rfl
    | false=>rw[e] at h0;exact absurd rfl h0
   apply kCt [0,3,5] [];conv=>whnf
   refine ih (i+1) _ _ _ (by omega) (by omega) rfl rfl ?_;rw[hsn true hp,if_pos rfl,List.map_append];rfl
 ·obtain rfl:i=64:=by omega
  repeat' first|exact k9|refine k2 ?_|apply kA|apply kI;intro hc|(apply Sn.go hX;conv=>whnf)|refine k8 ?_|apply kL;intro hl
  refine aa.j rfl ?_;simp only[cY,qw,lk,Nat.beq,cond_true];rw[List.all_map,OF];intro x _;rfl⟩
set_option maxRecDepth 100000
set_option maxHeartbeats 0
abbrev iw(W:Nat→Int):List D:=[.fr (.vl (.int .u64 (W 0))),.fr (.vl (.int .u64 (W 1))),.fr (.vl (.int .u64 (W 2))),.fr (.vl (.int .u64 (W 3))),.fr (.vl (.int .u64 (W 4))),.fr (.vl (.int .u64 (W 5))),.fr (.vl (.int .u64 (W 6))),.fr (.vl (.int .u64 (W 7))),.fr (.vl (.int .u64 (W 8))),.fr (.vl (.int .u64 (W 9))),.fr (.vl (.int .u64 (W 10))),.fr (.vl (.int .u64 (W 11))),.fr (.vl (.int .u64 (W 12))),.fr (.vl (.int .u64 (W 13))),.fr (.vl (.int .u64 (W 14))),.fr (.vl (.int .u64 (W 15))),.fr (.vl (.int .u64 (W 16))),.fr (.vl (.int .u64 (W 17))),.fr (.vl (.int .u64 (W 18))),.fr (.vl (.int .u64 (W 19))),.fr (.vl (.int .u64 (W 20))),.fr (.vl (.int .u64 (W 21))),.fr (.vl (.int .u64 (W 22))),.fr (.vl (.int .u64 (W 23))),.fr (.vl (.int .u64 (W 24))),.fr (.vl (.int .u64 (W 25))),.fr (.vl (.int .u64 (W 26))),.fr (.vl (.int .u64 (W 27))),.fr (.vl (.int .u64 (W 28))),.fr (.vl (.int .u64 (W 29))),.fr (.vl (.int .u64 (W 30))),.fr (.vl (.int .u64 (W 31))),.fr (.vl (.int .u64 (W 32))),.fr (.vl (.int .u64 (W 33))),.fr (.vl (.int .u64 (W 34))),.fr (.vl (.int .u64 (W 35))),.fr (.vl (.int .u64 (W 36))),.fr (.vl (.int .u64 (W 37))),.fr (.vl (.int .u64 (W 38))),.fr (.vl (.int .u64 (W 39))),.fr (.vl (.int .u64 (W 40))),.fr (.vl (.int .u64 (W 41))),.fr (.vl (.int .u64 (W 42))),.fr (.vl (.int .u64 (W 43))),.fr (.vl (.int .u64 (W 44))),.fr (.vl (.int .u64 (W 45))),.fr (.vl (.int .u64 (W 46))),.fr (.vl (.int .u64 (W 47))),.fr (.vl (.int .u64 (W 48))),.fr (.vl (.int .u64 (W 49))),.fr (.vl (.int .u64 (W 50))),.fr (.vl (.int .u64 (W 51))),.fr (.vl (.int .u64 (W 52))),.fr (.vl (.int .u64 (W 53))),.fr (.vl (.int .u64 (W 54))),.fr (.vl (.int .u64 (W 55))),.fr (.vl (.int .u64 (W 56))),.fr (.vl (.int .u64 (W 57))),.fr (.vl (.int .u64 (W 58))),.fr (.vl (.int .u64 (W 59))),.fr (.vl (.int .u64 (W 60))),.fr (.vl (.int .u64 (W 61))),.fr (.vl (.int .u64 (W 62))),.fr (.vl (.int .u64 (W 63)))]
theorem oM(W:Nat→Int):iw W=(List.range 64).map fun i=>D.fr (.vl (.int .u64 (W i))):=rfl
abbrev Kz(W:Nat→Int):List F:=[.vl (.int .u64 (W 0)),.vl (.int .u64 (W 1)),.vl (.int .u64 (W 2)),.vl (.int .u64 (W 3)),.vl (.int .u64 (W 4)),.vl (.int .u64 (W 5)),.vl (.int .u64 (W 6)),.vl (.int .u64 (W 7)),.vl (.int .u64 (W 8)),.vl (.int .u64 (W 9)),.vl (.int .u64 (W 10)),.vl (.int .u64 (W 11)),.vl (.int .u64 (W 12)),.vl (.int .u64 (W 13)),.vl (.int .u64 (W 14)),.vl (.int .u64 (W 15)),.vl (.int .u64 (W 16)),.vl (.int .u64 (W 17)),.vl (.int .u64 (W 18)),.vl (.int .u64 (W 19)),.vl (.int .u64 (W 20)),.vl (.int .u64 (W 21)),.vl (.int .u64 (W 22)),.vl (.int .u64 (W 23)),.vl (.int .u64 (W 24)),.vl (.int .u64 (W 25)),.vl (.int .u64 (W 26)),.vl (.int .u64 (W 27)),.vl (.int .u64 (W 28)),.vl (.int .u64 (W 29)),.vl (.int .u64 (W 30)),.vl (.int .u64 (W 31)),.vl (.int .u64 (W 32)),.vl (.int .u64 (W 33)),.vl (.int .u64 (W 34)),.vl (.int .u64 (W 35)),.vl (.int .u64 (W 36)),.vl (.int .u64 (W 37)),.vl (.int .u64 (W 38)),.vl (.int .u64 (W 39)),.vl (.int .u64 (W 40)),.vl (.int .u64 (W 41)),.vl (.int .u64 (W 42)),.vl (.int .u64 (W 43)),.vl (.int .u64 (W 44)),.vl (.int .u64 (W 45)),.vl (.int .u64 (W 46)),.vl (.int .u64 (W 47)),.vl (.int .u64 (W 48)),.vl (.int .u64 (W 49)),.vl (.int .u64 (W 50)),.vl (.int .u64 (W 51)),.vl (.int .u64 (W 52)),.vl (.int .u64 (W 53)),.vl (.int .u64 (W 54)),.vl (.int .u64 (W 55)),.vl (.int .u64 (W 56)),.vl (.int .u64 (W 57)),.vl (.int .u64 (W 58)),.vl (.int .u64 (W 59)),.vl (.int .u64 (W 60)),.vl (.int .u64 (W 61)),.vl (.int .u64 (W 62)),.vl (.int .u64 (W 63))]
theorem RD(W:Nat→Int):Kz W=(List.range 64).map fun i=>F.vl (.int .u64 (W i)):=rfl
theorem nc{α:Type}:∀(l:List α) (o:Nat) (v:α),o<l.length→setAt l o [v]=l.set o v
 | [],o,v,h=>by simp at h
 | c :: cs,0,v,h=>by cases cs<;>rfl
 | c :: cs,o+1,v,h=>by
  show c :: setAt cs o [v]=c :: cs.set o v
  rw[nc cs o v (by simpa using h)]
theorem ng(W:Nat→Int){i:Nat}(h:i<64):(iw W)[0+((i:Nat):Int).toNat * 1]?=some (.fr (.vl (.int .u64 (W i)))):=by
 rw[oM,Oo,OS,Rt,Pv,QV h];rfl
theorem AW(W:Nat→Int){i:Nat}(h:i<64):(D.ag (iw W)).cells[i * 1]?=some (.fr (.vl (.int .u64 (W i)))):=by
 have:=ng W h;rw[Oo,OS] at this;exact this
def fG(W:Nat→Int)(i:Nat)(v:Int)(j:Nat):Int:=if j=i then v else W j
theorem wB(W:Nat→Int){i:Nat}(h:i<64)(v:Int):setAt (iw W) (0+((i:Nat):Int).toNat * 1) [.fr (.vl (.int .u64 v))]=iw (fG W i v):=by
 rw[Oo,OS,Rt,nc _ _ _ (by simpa using h),oM,oM];refine List.ext_getElem (by simp) fun j h1 h2=>?_
 simp only[List.getElem_set,PO,Q3,fG]
 by_cases e:i=j
 ·subst e;simp
 ·have e':¬j=i:=fun q=>e q.symm
  simp[e,e']
abbrev tf(n:Int)(W:Nat→Int)(l:Int):List F:=inF n :: (Kz W++[.vl (.int .u64 l)])
def Af(M:Nat→Nat→Bool)(a b:Nat):Prop:=a<64∧b<64∧M a b=true
structure LI(M Q:Nat→Nat→Bool):Prop where
 base:∀a b,Af M a b→Q a b=true
 sound:∀a b,a<64→b<64→Q a b=true→l8 (Af M) a b
structure LJ(M Q Q':Nat→Nat→Bool)(i k:Nat):Prop where
 up:∀a b,a<64→b<64→Q a b=true→Q' a b=true
 sound:∀a b,a<64→b<64→Q' a b=true→l8 (Af M) a b
 done:∀a c b,a<64→c<64→b<64→(a<i∨a=i∧c<k)→Q a c=true→Q c b=true→Q' a b=true
def H7(Q:Nat→Nat→Bool):Nat:=(List.range 4096).countP fun x=>Q (x / 64) (x % 64)
theorem vA{α:Type}{p q:α→Bool}:∀{l:List α},(∀x∈l,p x=true→q x=true)→(∃x∈l,p x=false∧q x=true)→l.countP p<l.countP q
 | [],_,h=>by obtain⟨x,hx,_⟩:=h;cases hx
 | a :: l,h,⟨x,hx,h1,h2⟩=>by
  have hle:l.countP p≤l.countP q:=List.countP_mono_left fun y hy=>h y (by simp[hy])
  rw[List.countP_cons,List.countP_cons];rcases OD.1 hx with rfl|hx
  ·rw[h1,h2];simp;omega
  ·have:=vA (l:=l) (fun y hy=>h y (by simp[hy])) ⟨x,hx,h1,h2⟩;have ha:=h a (by simp)
   cases hp:p a with
   | true=>rw[ha hp];simp;omega
   | false=>cases q a<;>simp<;>omega
theorem I5{Q Q':Nat→Nat→Bool}(h:∀a b,a<64→b<64→Q a b=true→Q' a b=true){a b:Nat}(ha:a<64)(hb:b<64)(h1:Q a b=false)(h2:Q' a b=true):H7 Q<H7 Q':=by
 refine vA (fun x hx hq=>?_) ⟨a * 64+b,by simp;omega,?_,?_⟩
 ·have:=Pf.1 hx;exact h _ _ (by omega) (by omega) hq
 ·rw[show(a * 64+b) / 64=a by omega,show(a * 64+b) % 64=b by omega];exact h1
 ·rw[show(a * 64+b) / 64=a by omega,show(a * 64+b) % 64=b by omega];exact h2
theorem Jn(Q:Nat→Nat→Bool):H7 Q≤4096:=by
 have:=List.countP_le_length (p:=fun x=>Q (x / 64) (x % 64)) (l:=List.range 4096);simpa [H7] using this
theorem LJ.zero{M Q:Nat→Nat→Bool}(h:LI M Q):LJ M Q Q 0 0:=⟨fun _ _ _ _ h=>h,h.sound,fun a c b _ _ _ h=>by omega⟩
theorem LJ.next{M Q Q':Nat→Nat→Bool}{i k:Nat}(h:LJ M Q Q' i k)(hk:¬k<64):LJ M Q Q' (i+1) 0:=⟨h.up,h.sound,fun a c b ha hc hb hx=>h.done a c b ha hc hb (by omega)⟩
theorem LJ.skip{M Q Q':Nat→Nat→Bool}{i k:Nat}(h:LJ M Q Q' i k)(hi:i<64)(hk:k<64)(hq:Q' i k=false):LJ M Q Q' i (k+1):=⟨h.up,h.sound,fun a c b ha hc hb hx h1 h2=>by
 by_cases e:a=i∧c=k
 ·obtain⟨rfl,rfl⟩:=e;rw[h.up a c ha hc h1] at hq
  cases hq
 ·exact h.done a c b ha hc hb (by omega) h1 h2⟩
theorem LJ.take{M Q Q':Nat→Nat→Bool}{i k:Nat}(h:LJ M Q Q' i k)(hQ:LI M Q)(hi:i<64)(hk:k<64)(hq:Q' i k=true):LJ M Q (fun a b=>if a=i then Q' i b||Q k b else Q' a b) i (k+1):=⟨fun a b ha hb h1=>by
  split
  ·rename_i e;subst e;rw[h.up a b ha hb h1];rfl
  ·exact h.up a b ha hb h1,fun a b ha hb h1=>by
  split at h1
  ·rename_i e;subst e;rw[Pp] at h1;rcases h1 with h1|h1
   ·exact h.sound a b ha hb h1
   ·exact(h.sound a k ha hk hq).trans (hQ.sound k b hk hb h1)
  ·exact h.sound a b ha hb h1,fun a c b ha hc hb hx h1 h2=>by
  split
  ·rename_i e;subst e
   by_cases ec:c=k
   ·subst ec;rw[h2,Bool.or_true]
   ·rw[h.done a c b ha hc hb (by omega) h1 h2];rfl
  ·exact h.done a c b ha hc hb (by omega) h1 h2⟩
theorem LJ.again{M Q Q':Nat→Nat→Bool}(hQ:LI M Q)(h:LJ M Q Q' 64 0):LI M Q':=⟨fun a b hr=>h.up a b hr.1 hr.2.1 (hQ.base a b hr),h.sound⟩
theorem LJ.same{M Q Q':Nat→Nat→Bool}(hQ:LI M Q)(h:LJ M Q Q' 64 0)(e:∀a b,a<64→b<64→Q' a b=Q a b){a b:Nat}(ha:a<64)(hb:b<64):Q a b=true↔l8 (Af M) a b:=by
 refine⟨hQ.sound a b ha hb,fun hp=>?_⟩
 induction hp with
 | one h1=>exact hQ.base _ _ h1
 | more _ h2 ih=>rw[←e _ _ ha h2.2.1];exact h.done _ _ _ ha h2.1 h2.2.1 (.inl ha) (ih h2.1) (hQ.base _ _ h2)
noncomputable def lZ(M:Nat→Nat→Bool)(i:Nat):Bool:=@decide (l8 (Af M) i i) (Classical.propDecidable _)
instance Lr(n:Int)(M:Nat→Nat→Bool)(l:Int):C 76 [.ag (tf n (fun i=>wdI (M i)) l)] (wdF (lZ M)) true True:=⟨fun _=>by
 refine kf rfl rfl ?_;repeat' first|exact k9|refine k1 ?_|apply kA|apply kI;intro hc|apply kL;intro hl|refine k5 ?_|refine k8 ?_|fail
 apply kCt [3] [];conv=>whnf
 refine Lp.ind (fun Q:Nat→Nat→Bool=>4096 - H7 Q) (LI M) (fun _=>[]) (fun Q=>[(0,.va 0 112 (iw fun i=>wdI (Q i)))]) (fun _=>_) M ⟨fun a b h=>h.2.2,fun a b ha hb h=>.one ⟨ha,hb,h⟩⟩ rfl rfl rfl ?_
 rintro G Q ih hQ
 obtain⟨W,hW⟩:∃W:Nat→Int,W=fun i=>wdI (Q i):=⟨_,rfl⟩
 rw[←hW]
 repeat' first|exact k9|refine k1 ?_|apply kA|apply kI;intro hc|apply kL;intro hl|refine k5 ?_|refine k8 ?_|fail
 apply kCt [3,4,13] [];conv=>whnf
 refine Lp.ind (fun x:Nat×(Nat→Nat→Bool)=>64 - x.1) (fun x=>x.1≤64∧LJ M Q x.2 x.1 0) (fun x=>[(13,InD x.1)]) (fun x=>[(1,.va 0 112 (iw fun i=>wdI (x.2 i)))]) (fun _=>_) (0,Q) ⟨Oq _,LJ.zero hQ⟩ rfl rfl (by subst hW;rfl) ?_
 rintro G1 ⟨i,Q1⟩ ih1 ⟨hi,hJ⟩
 dsimp only at hi hJ ih1 ⊢
 by_cases hx:i<64
 ·obtain⟨W1,hW1⟩:∃W1:Nat→Int,W1=fun i=>wdI (Q1 i):=⟨_,rfl⟩
  rw[←hW1]
  repeat' first|exact k9|refine k1 ?_|apply kA|apply kI;intro hc|apply kL;intro hl|refine k5 ?_|refine k8 ?_|fail
  apply kCt [3,4,5,13,16] [];conv=>whnf
  refine Lp.ind (fun x:Nat×(Nat→Nat→Bool)=>64 - x.1) (fun x=>x.1≤64∧LJ M Q x.2 i x.1) (fun x=>[(16,InD x.1)]) (fun x=>[(1,.va 0 112 (iw fun i=>wdI (x.2 i)))]) (fun _=>_) (0,Q1) ⟨Oq _,hJ⟩ rfl rfl (by subst hW1;rfl) ?_
  rintro G2 ⟨k,Q2⟩ ih2 ⟨hk,hJ2⟩
  dsimp only at hk hJ2 ih2 ⊢
  by_cases hy:k<64
  ·obtain⟨W2,hW2⟩:∃W2:Nat→Int,W2=fun i=>wdI (Q2 i):=⟨_,rfl⟩
   rw[←hW2];have hbit:=H0 (Q2 i) hy;rw[show wdI (Q2 i)=W2 i by rw[hW2]] at hbit
   repeat' first|exact k9|refine k1 ?_|apply kA|apply kI;intro hc|apply kL;intro hl|((apply ExK.m;exact⟨ng W2 hx⟩)<;>conv=>whnf)|((apply ExK.m;exact⟨ng W hy⟩)<;>conv=>whnf)|((apply FoA.m;exact⟨wB W2 hx _⟩)<;>conv=>whnf)|refine k5 ?_|refine k8 ?_|fail
   ·have h0:=hc;rw[hbit] at h0;have hq:Q2 i k=false:=by
     cases e:Q2 i k with
     | false=>rfl
     | true=>rw[e] at h0;cases h0
    apply kCt [3,4,5,13,16] [];conv=>whnf
    exact ih2 (k+1,Q2) _ _ _ (by dsimp only;omega) ⟨by dsimp only;omega,hJ2.skip hx hy hq⟩ rfl rfl (by subst hW2;rfl)
   ·have h0:=hc;rw[hbit] at h0;have hq:Q2 i k=true:=by
     cases e:Q2 i k with
     | true=>rfl
     | false=>rw[e] at h0;exact absurd rfl h0
    have hwd:fG W2 i (IntKind.u64.wrap ((BitVec.ofInt IntKind.u64.bits (W2 i) ||| BitVec.ofInt IntKind.u64.bits (W k)).toNat:Int))=fun j=>wdI ((fun a b=>if a=i then Q2 i b||Q k b else Q2 a b) j):=by
     funext j
     unfold fG
     by_cases e:j=i
     ·subst e;rw[if_pos rfl,hW2,hW];simp only[if_true];exact DM (Q2 j) (Q k)
     ·rw[if_neg e,hW2];simp only[e,if_false]
    apply kCt [3,4,5,13,16] [];conv=>whnf
    exact ih2 (k+1,_) _ _ _ (by dsimp only;omega) ⟨by dsimp only;omega,hJ2.take hQ hx hy hq⟩ rfl rfl (congrArg (fun z=>jX [(1,B.va 0 112 (iw z))] G2.h) hwd)
  ·obtain rfl:k=64:=by omega
   repeat' first|exact k9|refine k1 ?_|apply kA|apply kI;intro hc|apply kL;intro hl|refine k5 ?_|refine k8 ?_|fail
   apply kCt [3,4,13] [];conv=>whnf
   exact ih1 (i+1,Q2) _ _ _ (by dsimp only;omega) ⟨by dsimp only;omega,hJ2.next (by omega)⟩ rfl rfl rfl
 ·obtain rfl:i=64:=by omega
  obtain⟨W1,hW1⟩:∃W1:Nat→Int,W1=fun i=>wdI (Q1 i):=⟨_,rfl⟩
  rw[←hW1]
  repeat' first|exact k9|refine k1 ?_|apply kA|apply kI;intro hc|apply kL;intro hl|refine k5 ?_|refine k8 ?_|fail
  ·have hl:(List.range 64).map W1=(List.range 64).map W:=hc;have hWe:∀j<64,W1 j=W j:=fun j hj=>List.map_inj_left.1 hl j (Pf.2 hj)
   have hQe:∀a b,a<64→b<64→Q1 a b=Q a b:=fun a b ha hb=>by
    have:=hWe a ha;rw[hW1,hW] at this;exact LM this b hb
   have hP:∀j<64,Q j j=lZ M j:=fun j hj=>by
    rw[OV,hJ.same hQ hQe hj hj,lZ,@decide_eq_true_iff _ (Classical.propDecidable _)]
   clear ih ih1 hc hl hWe hW1 hJ;apply kCt [7,40,41] [];conv=>whnf
   refine Lp.ind (fun z:Nat=>64 - z) (fun z=>z≤64) (fun z=>[(41,InD z),(7,.fr (wdF fun j=>decide (j<z)&&lZ M j))]) (fun _=>[]) (fun _=>_) 0 (Oq _) rfl ?_ rfl ?_
   ·have e0:wdI (fun j=>decide (j<0)&&lZ M j)=0:=(mH fun j _=>by simp).trans nj;simp only[wdF];rw[e0];rfl
   rintro G3 i ih hi
   obtain⟨w,hw⟩:=exEq (wdI (fun j=>decide (j<i)&&lZ M j));simp only[wdF];rw[←hw]
   by_cases hx:i<64
   ·have hnw:IntKind.u64.wrap ((BitVec.ofInt IntKind.u64.bits w ||| BitVec.ofInt IntKind.u64.bits (IntKind.u64.wrap ((BitVec.ofInt IntKind.u64.bits (W i) &&& BitVec.ofInt IntKind.u64.bits (IntKind.u64.wrap (1 * 2 ^ (min ((i:Nat):Int).toNat IntKind.u64.bits)))).toNat:Int))).toNat:Int)=wdI (fun j=>decide (j<i+1)&&lZ M j):=by
     rw[hw,hW,Cd hx,Kv,DM];refine mH fun j hj=>?_
     by_cases e:j=i
     ·subst e;simp[hP j hj]
     ·have h1:decide (j<i+1)=decide (j<i):=decide_eq_decide.2 (by omega);simp[e,h1]
    repeat' first|exact k9|refine k1 ?_|apply kA|apply kI;intro hc|apply kL;intro hl|((apply ExK.m;exact⟨AW W hx⟩)<;>conv=>whnf)|refine k5 ?_|refine k8 ?_|fail
    rw[hnw];apply kCt [7,40,41] [];conv=>whnf
    exact ih (i+1) _ _ _ (by omega) (by omega) rfl rfl rfl
   ·obtain rfl:i=64:=by omega
    have hfin:w=wdI (lZ M):=by
     rw[hw];exact mH fun j hj=>by simp[hj]
    repeat' first|exact k9|refine k1 ?_|apply kA|apply kI;intro hc|apply kL;intro hl|refine k5 ?_|refine k8 ?_|fail
    exact aa.j (by rw[hfin]) rfl
  ·have hne:∃a b,a<64∧b<64∧Q a b=false∧Q1 a b=true:=by
    refine Classical.byContradiction fun hno=>hc ?_;have hWe:∀j<64,W1 j=W j:=fun j hj=>by
     rw[hW1,hW];refine mH fun b hb=>?_
     cases e:Q j b with
     | true=>exact hJ.up j b hj hb e
     | false=>
      cases e2:Q1 j b with
      | false=>rfl
      | true=>exact(hno ⟨j,b,hj,hb,e,e2⟩).elim
    exact(List.map_inj_left.2 fun j hj=>hWe j (Pf.1 hj):(List.range 64).map W1=(List.range 64).map W)
   obtain⟨a,b,ha,hb,h1,h2⟩:=hne;have hlt:=I5 hJ.up ha hb h1 h2;have hle:=Jn Q1;apply kCt [3] [];conv=>whnf
   exact ih Q1 _ _ _ (by omega) (LJ.again hQ hJ) rfl rfl (by subst hW1;rfl)⟩
end Go.Km
end
section
namespace Go.Km
open Go Go.RowKit Go.Vc
open Go.Sl hiding lk
theorem fQ.i{P:Program}{Γ:Nat→Option (List F)}{t f:Nat}{η:Env}{l:List D}{k:Kr Prop}{d:D}{rd:List Nat}{e:List (Nat×B)}(h:fj P Γ η f l d rd e)(hk:k d rd e):fQ P Γ t η f l k:=⟨d,rd,e,h,hk⟩
theorem BR{c:Cf}{O:Nat→Nat→Prop}{η:Env}{w:World}{b v t:Nat}{cs:List D}(hp:Hp c O η w)(h:η b=some (.va v t cs)):∃u,D.rep c (.ptr b v 0) u:=by
 obtain⟨g,vs,h1,_⟩:=hp.pc b _ h;exact⟨_,by unfold D.rep;exact⟨g,h1,rfl⟩⟩
theorem GK {P:Program} {X:Tx} (hX:mA P X) {f cl:FuncId} {fi:Fi} (hf:X.fi f=some fi) {t0 t1 t2:Nat} {l:List F} {g ii:F} {S S':List F} (hN:Nat.ble (l.length+1) fi.N=true)
  (hrun:∀vs,Sn P X f (⟨.tp [],[(0,.va 0 t0 [.fr g]),(1,.va 0 t1 (S'.map .fr)),(2,.va 0 t2 [.fr ii]),(3,.gh 0 vs ((l.map F.toD++[.cl cl [.ptr 0 0 0,.ptr 1 0 0,.ptr 2 0 0]])++[.ptr 0 0 0,.ptr 1 0 0,.ptr 2 0 0]))]⟩:wS)
   ⟨⟨f,fi.N,pP 0 (l.map F.toD++[.cl cl [.ptr 0 0 0,.ptr 1 0 0,.ptr 2 0 0]]),[.code fi.body],[],none⟩,[],[(3,.gh 0 vs ((l.map F.toD++[.cl cl [.ptr 0 0 0,.ptr 1 0 0,.ptr 2 0 0]])++[.ptr 0 0 0,.ptr 1 0 0,.ptr 2 0 0])),(0,.va 0 t0 [.fr g]),(1,.va 0 t1 (S.map .fr)),(2,.va 0 t2 [.fr ii])],4⟩)
  {η:Env} {b0 v0 b1 v1 b2 v2:Nat} (h0:η b0=some (.va v0 t0 [.fr g])) (h1:η b1=some (.va v1 t1 (S.map .fr))) (h2:η b2=some (.va v2 t2 [.fr ii])) (n01:Nat.beq b0 b1=false) (n02:Nat.beq b0 b2=false) (n12:Nat.beq b1 b2=false) :
  fj P X.Γ η f (l.map F.toD++[.cl cl [.ptr b0 v0 0,.ptr b1 v1 0,.ptr b2 v2 0]]) (.tp []) [b0,b1,b2] [(b0,.va v0 t0 [.fr g]),(b1,.va v1 t1 (S'.map .fr)),(b2,.va v2 t2 [.fr ii])]:=by
 have sym:∀{a b:Nat},Nat.beq a b=false→Nat.beq b a=false:=fun {a b} h=>by rw[←Bool.not_eq_true];intro e;rw[Nat.eq_of_beq_eq_true e,Pm] at h;cases h
 have m01:=sym n01;have m02:=sym n02;have m12:=sym n12;have hlk:∀{x y z:B} {i:Nat} {u:B},lk [(b0,x),(b1,y),(b2,z)] i=some u→(i=b0∧u=x)∨(i=b1∧u=y)∨(i=b2∧u=z):=by
  intro x y z i u h;simp only[lk] at h
  cases e1:Nat.beq b0 i with
  | true=>rw[e1] at h;cases h;exact .inl ⟨(Nat.eq_of_beq_eq_true e1).symm,rfl⟩
  | false=>
   rw[e1] at h
   cases e2:Nat.beq b1 i with
   | true=>rw[e2] at h;cases h;exact .inr (.inl ⟨(Nat.eq_of_beq_eq_true e2).symm,rfl⟩)
   | false=>
    rw[e2] at h
    cases e3:Nat.beq b2 i with
    | true=>rw[e3] at h;cases h;exact .inr (.inr ⟨(Nat.eq_of_beq_eq_true e3).symm,rfl⟩)
    | false=>rw[e3] at h;cases h
 have l0:∀{x y z:B},lk [(b0,x),(b1,y),(b2,z)] b0=some x:=by intro x y z;simp[lk]
 have l1:∀{x y z:B},lk [(b0,x),(b1,y),(b2,z)] b1=some y:=by intro x y z;simp[lk,n01]
 have l2:∀{x y z:B},lk [(b0,x),(b1,y),(b2,z)] b2=some z:=by intro x y z;simp[lk,n02,n12]
 have ho:eN [(b0,v0),(b1,v1),(b2,v2)]=true:=by simp[eN,m01,m02,m12]
 have p0:cW [(b0,v0),(b1,v1),(b2,v2)] b0 v0 0=some 0:=by simp[cW]
 have p1:cW [(b0,v0),(b1,v1),(b2,v2)] b1 v1 0=some 1:=by simp[cW,m01]
 have p2:cW [(b0,v0),(b1,v1),(b2,v2)] b2 v2 0=some 2:=by simp[cW,m02,m12]
 have hren:∀(Y:List F),iW [(b0,v0),(b1,v1),(b2,v2)] [] [(b0,.va v0 t0 [.fr g]),(b1,.va v1 t1 (Y.map .fr)),(b2,.va v2 t2 [.fr ii])] [(b0,v0),(b1,v1),(b2,v2)] 0=some [(0,.va 0 t0 [.fr g]),(1,.va 0 t1 (Y.map .fr)),(2,.va 0 t2 [.fr ii])]:=fun Y=>by
  simp only[iW,l0,l1,l2,B.ver,Pm,cond_true,iA,bm,cj,pN]
 have hrd:bm [(b0,v0),(b1,v1),(b2,v2)] [.cl cl [.ptr b0 v0 0,.ptr b1 v1 0,.ptr b2 v2 0]]=some [.cl cl [.ptr 0 0 0,.ptr 1 0 0,.ptr 2 0 0]]:=by
  simp only[bm,cj,p0,p1,p2]
 have hra:∀(a b a' b':List D),bm [(b0,v0),(b1,v1),(b2,v2)] a=some a'→bm [(b0,v0),(b1,v1),(b2,v2)] b=some b'→bm [(b0,v0),(b1,v1),(b2,v2)] (a++b)=some (a'++b'):=by
  intro a
  induction a with
  | nil=>intro b a' b' ha hb;simp only[bm] at ha;cases ha;exact hb
  | cons d a ih=>
   intro b a' b' ha hb;simp only[bm] at ha
   split at ha
   ·rename_i d' l' hd hl
    cases ha;simp only[List.cons_append,bm,hd,ih b _ _ hl hb]
   ·cases ha
 refine j5 hX hf (x:=[D.ptr b0 v0 0,D.ptr b1 v1 0,D.ptr b2 v2 0]) (x0:=[D.ptr 0 0 0,D.ptr 1 0 0,D.ptr 2 0 0]) (l:=l.map F.toD++[D.cl cl [D.ptr b0 v0 0,D.ptr b1 v1 0,D.ptr b2 v2 0]]) (l0:=l.map F.toD++[D.cl cl [D.ptr 0 0 0,D.ptr 1 0 0,D.ptr 2 0 0]])
  (m0:=[(b0,v0),(b1,v1),(b2,v2)]) (μ:=[(b0,v0),(b1,v1),(b2,v2)]) (hb:=[(b0,.va v0 t0 [.fr g]),(b1,.va v1 t1 (S.map .fr)),(b2,.va v2 t2 [.fr ii])]) (h0:=[(0,.va 0 t0 [.fr g]),(1,.va 0 t1 (S.map .fr)),(2,.va 0 t2 [.fr ii])]) (d:=D.tp []) (d':=D.tp [])
  (ds':=(l.map F.toD++[D.cl cl [D.ptr 0 0 0,D.ptr 1 0 0,D.ptr 2 0 0]])++[D.ptr 0 0 0,D.ptr 1 0 0,D.ptr 2 0 0]) (h'':=[(0,.va 0 t0 [.fr g]),(1,.va 0 t1 (S'.map .fr)),(2,.va 0 t2 [.fr ii])])
  ⟨ho,ho,?_,?_,?_,?_,?_,?_⟩ (hren S) ?_ ?_ ?_ ?_ ?_ (hren S') hrun
 ·intro i x h;rcases hlk h with ⟨rfl,rfl⟩|⟨rfl,rfl⟩|⟨rfl,rfl⟩
  ·exact⟨h0,by simp⟩
  ·exact⟨h1,by simp⟩
  ·exact⟨h2,by simp⟩
 ·intro i u h;simp only[OD,Pz,or_false,Qa] at h;rcases h with ⟨rfl,rfl⟩|⟨rfl,rfl⟩|⟨rfl,rfl⟩
  ·exact⟨_,l0⟩
  ·exact⟨_,l1⟩
  ·exact⟨_,l2⟩
 ·intro i x h;rcases hlk h with ⟨rfl,rfl⟩|⟨rfl,rfl⟩|⟨rfl,rfl⟩<;>simp
 ·intro i x h;rcases hlk h with ⟨rfl,rfl⟩|⟨rfl,rfl⟩|⟨rfl,rfl⟩
  ·exact⟨rfl,.inl ⟨0,rfl⟩⟩
  ·exact⟨rfl,.inl ⟨1,rfl⟩⟩
  ·exact⟨rfl,.inl ⟨2,rfl⟩⟩
 ·intro i x y h hy;rcases hlk h with ⟨rfl,rfl⟩|⟨rfl,rfl⟩|⟨rfl,rfl⟩
  ·rw[h0] at hy;cases hy;exact Ov _
  ·rw[h1] at hy;cases hy;exact Ov _
  ·rw[h2] at hy;cases hy;exact Ov _
 ·intro i j u h;have hl:∀(a:List D) (n:Nat) (x0 x1 x2:D),a.length=n→(a++[x0,x1,x2])[n]?=some x0∧(a++[x0,x1,x2])[n+1]?=some x1∧(a++[x0,x1,x2])[n+2]?=some x2:=by
   intro a n x0 x1 x2 e;subst e;refine⟨?_,?_,?_⟩
   ·rw[OL (by omega),Pt];rfl
   ·rw[OL (by omega),PW];rfl
   ·rw[OL (by omega),PW];rfl
  match i,h with
  | 0,h=>cases h;exact .inr (.inl ⟨l.length+1,0,(hl _ _ _ _ _ (by simp)).1,(hl _ _ _ _ _ (by simp)).1⟩)
  | 1,h=>cases h;exact .inr (.inl ⟨l.length+1+1,0,(hl _ _ _ _ _ (by simp)).2.1,(hl _ _ _ _ _ (by simp)).2.1⟩)
  | 2,h=>cases h;exact .inr (.inl ⟨l.length+1+2,0,(hl _ _ _ _ _ (by simp)).2.2,(hl _ _ _ _ _ (by simp)).2.2⟩)
 ·exact hra _ _ _ _ (ja _ l) hrd
 ·simp only[bm,cj,p0,p1,p2]
 ·intro η' c O w hη hpw;obtain⟨u0,q0⟩:=BR hpw ((hη b0 (by simp)).trans h0);obtain⟨u1,q1⟩:=BR hpw ((hη b1 (by simp)).trans h1);obtain⟨u2,q2⟩:=BR hpw ((hη b2 (by simp)).trans h2);exact⟨[u0,u1,u2],by unfold D.aq;exact⟨_,_,rfl,q0,by unfold D.aq;exact⟨_,_,rfl,q1,by unfold D.aq;exact⟨_,_,rfl,q2,by unfold D.aq;rfl⟩⟩⟩⟩
 ·simpa using hN
 ·simp only[cj,bm]
end Go.Km
end
section
namespace Go.Km
open Go Go.Vc Go.Proofs Go.ab Go.Proofs.YthebhpcjcihjgaaGreatDoor
set_option maxRecDepth 100000
set_option maxHeartbeats 0
abbrev Lm(n:Int)(W:Nat→Int)(l:Int):List D:=[.fr (inF n),.fr (.vl (.int .u64 (W 0))),.fr (.vl (.int .u64 (W 1))),.fr (.vl (.int .u64 (W 2))),.fr (.vl (.int .u64 (W 3))),.fr (.vl (.int .u64 (W 4))),.fr (.vl (.int .u64 (W 5))),.fr (.vl (.int .u64 (W 6))),.fr (.vl (.int .u64 (W 7))),.fr (.vl (.int .u64 (W 8))),.fr (.vl (.int .u64 (W 9))),.fr (.vl (.int .u64 (W 10))),.fr (.vl (.int .u64 (W 11))),.fr (.vl (.int .u64 (W 12))),.fr (.vl (.int .u64 (W 13))),.fr (.vl (.int .u64 (W 14))),.fr (.vl (.int .u64 (W 15))),.fr (.vl (.int .u64 (W 16))),.fr (.vl (.int .u64 (W 17))),.fr (.vl (.int .u64 (W 18))),.fr (.vl (.int .u64 (W 19))),.fr (.vl (.int .u64 (W 20))),.fr (.vl (.int .u64 (W 21))),.fr (.vl (.int .u64 (W 22))),.fr (.vl (.int .u64 (W 23))),.fr (.vl (.int .u64 (W 24))),.fr (.vl (.int .u64 (W 25))),.fr (.vl (.int .u64 (W 26))),.fr (.vl (.int .u64 (W 27))),.fr (.vl (.int .u64 (W 28))),.fr (.vl (.int .u64 (W 29))),.fr (.vl (.int .u64 (W 30))),.fr (.vl (.int .u64 (W 31))),.fr (.vl (.int .u64 (W 32))),.fr (.vl (.int .u64 (W 33))),.fr (.vl (.int .u64 (W 34))),.fr (.vl (.int .u64 (W 35))),.fr (.vl (.int .u64 (W 36))),.fr (.vl (.int .u64 (W 37))),.fr (.vl (.int .u64 (W 38))),.fr (.vl (.int .u64 (W 39))),.fr (.vl (.int .u64 (W 40))),.fr (.vl (.int .u64 (W 41))),.fr (.vl (.int .u64 (W 42))),.fr (.vl (.int .u64 (W 43))),.fr (.vl (.int .u64 (W 44))),.fr (.vl (.int .u64 (W 45))),.fr (.vl (.int .u64 (W 46))),.fr (.vl (.int .u64 (W 47))),.fr (.vl (.int .u64 (W 48))),.fr (.vl (.int .u64 (W 49))),.fr (.vl (.int .u64 (W 50))),.fr (.vl (.int .u64 (W 51))),.fr (.vl (.int .u64 (W 52))),.fr (.vl (.int .u64 (W 53))),.fr (.vl (.int .u64 (W 54))),.fr (.vl (.int .u64 (W 55))),.fr (.vl (.int .u64 (W 56))),.fr (.vl (.int .u64 (W 57))),.fr (.vl (.int .u64 (W 58))),.fr (.vl (.int .u64 (W 59))),.fr (.vl (.int .u64 (W 60))),.fr (.vl (.int .u64 (W 61))),.fr (.vl (.int .u64 (W 62))),.fr (.vl (.int .u64 (W 63))),.fr (.vl (.int .u64 l))]
theorem Jm(n:Int)(W:Nat→Int)(l:Int){i e:Nat}(h:i<64)(he:e=i+1):(Lm n W l)[e]?=some (.fr (.vl (.int .u64 (W i)))):=by
 subst he;show(iw W++[.fr (.vl (.int .u64 l))])[i]?=_
 rw[O6 (by simpa using h)];have:=ng W h;rw[Oo,OS,Rt] at this;exact this
theorem IK(n:Int)(W:Nat→Int)(l:Int){i e:Nat}(h:i<64)(he:e=i+1)(v:Int):setAt (Lm n W l) e [.fr (.vl (.int .u64 v))]=Lm n (fG W i v) l:=by
 subst he;rw[nc _ _ _ (by simp;omega)];have:=wB W h v;rw[Oo,OS,Rt,nc _ _ _ (by simpa using h)] at this;show D.fr (inF n) :: (iw W++[D.fr (.vl (.int .u64 l))]).set i (D.fr (.vl (.int .u64 v)))=D.fr (inF n) :: (iw (fG W i v)++[.fr (.vl (.int .u64 l))])
 rw[List.set_append_left _ _ (by simpa using h),this]
theorem mW{W:Nat→Int}{i:Nat}{v:Int}(h:W i=v):fG W i v=W:=by
 funext j
 unfold fG
 by_cases e:j=i
 ·subst e;rw[if_pos rfl,h]
 ·rw[if_neg e]
theorem v8(W:Nat→Int)(i:Nat)(u v:Int):fG (fG W i u) i v=fG W i v:=by
 funext j
 unfold fG
 by_cases e:j=i
 ·simp[e]
 ·simp[e]
theorem C0(W:Nat→Int)(i:Nat)(v:Int):fG W i v i=v:=by simp[fG]
def ix(g:List Dfn)(p:Nat→Bool)(L:List ByteArray)(j:Nat):Bool:=p j||L.any fun s=>decide (bf g s=some j)
abbrev uZ(g:List Dfn)(fl:List Fl)(ns:List Nod)(k:Int):List ByteArray:=(aF ns ns.length [k]).cU g fl false
abbrev clL(b0 v0 b1 v1 b2 v2:Nat):D:=.cl 109 [.ptr b0 v0 0,.ptr b1 v1 0,.ptr b2 v2 0]
theorem ur(g:List Dfn)(p:Nat→Bool):ix g p []=p:=by funext j;simp[ix]
theorem Au(g:List Dfn)(p:Nat→Bool)(L M:List ByteArray):ix g (ix g p L) M=ix g p (L++M):=by funext j;simp[ix,Bool.or_assoc]
theorem zD(g:List Dfn)(p:Nat→Bool)(s:ByteArray):ix g p [s]=fun j=>p j||decide (bf g s=some j):=by funext j;simp[ix]
theorem oy(g:List Dfn)(fl:List Fl){ns:List Nod}(hk:KOk ns)(s:Bool){x:Nat}(hx:x<ns.length)(ks:List Int):(aF ns ns.length ((x:Int) :: ks)).cU g fl s=uZ g fl ns (x:Int)++(if (s && !((aG g fl ns).getD x .bot).zero)=true then [] else (aF ns ns.length ks).cU g fl s):=by
 have h1:=gl (ns:=ns) hk.ah (k:=(x:Int)) (by omega) (by omega);have h2:=uF g fl hk x hx;rw[bk _ _ (by omega),uZ,h2,h1];simp only[Fo.app,Fo.cU,Fo.gF,P5,OQ,if_false,Oj];rfl
theorem J0(g:List Dfn)(fl:List Fl){ns:List Nod}(hk:KOk ns){x:Nat}(hx:x<ns.length):uZ g fl ns (x:Int)=if ns[x].kind=3 then [ns[x].text] else if ns[x].kind=6∧ns[x].max=0 then [] else (aF ns ns.length ns[x].kids).cU g fl (decide (ns[x].kind=4)):=by
 have h1:=gl (ns:=ns) hk.ah (k:=(x:Int)) (by omega) (by omega);have hd:dat ns (x:Int)={ ns[x] with kids:=[] }:=by simp[dat,List.getD_eq_getElem?_getD,hx]
 rw[uZ,h1,←aM (Oe hx),hd];simp only[Fo.cU,P5,OQ,if_false,Oj]
def Ki(g:List Dfn)(t:Tre)(fl X:List Fl)(i:Nat)(k:Nat):Prop:=∀(n lo:Int) (p:Nat→Bool) (W:Nat→Int),W i=wdI p→∀(η:Env) (b0 v0 b1 v1 b2 v2:Nat),η b0=some (.va v0 24 [.fr (.sl (g.map mI))])→η b1=some (.va v1 114 ((tf n W lo).map .fr))→η b2=some (.va v2 3 [.fr (inF (i:Int))])→Nat.beq b0 b1=false→Nat.beq b0 b2=false→Nat.beq b1 b2=false→
  fj Tryz.prog X1.Γ η 108 ([aw t,eF X,inF (k:Int)].map F.toD++[clL b0 v0 b1 v1 b2 v2]) (.tp []) [b0,b1,b2] [(b0,.va v0 24 [.fr (.sl (g.map mI))]),(b1,.va v1 114 ((tf n (fG W i (wdI (ix g p (uZ g fl t.nodes (k:Int))))) lo).map .fr)),(b2,.va v2 3 [.fr (inF (i:Int))])]
theorem Fx{g:List Dfn}{t:Tre}{fl X:List Fl}{i:Nat}(hXX:X=aG g fl t.nodes)(hg:g.length≤64)(hw:t.wf)(hR:ax t)(hi:i<64):∀k:Nat,k<t.nodes.length→Ki g t fl X i k:=by
 intro k
 induction k using Nat.strongRecOn with
 | ind k ih=>
  intro hk n lo p W hW η b0 v0 b1 v1 b2 v2 h0 h1 h2 n01 n02 n12;have hX:=pG [109] [108];refine GK hX rfl rfl (fun vs=>?_) h0 h1 h2 n01 n02 n12;clear h0 h1 h2 n01 n02 n12;have hlen:=hw.len;simp only[b9] at hlen;have hkk:=hR.kok;have hat:=J0 g fl hkk hk;have hfit:=hR.fits k t.nodes[k] (Oe hk);have hko:=hkk k t.nodes[k] (Oe hk);obtain⟨kf1,kf2,kf3⟩:=nu hfit;have hXl:X.length=t.nodes.length:=by rw[hXX,cE]
  have hkl:=(hw.nodes _ (Of hk)).kids.1;simp only[eX] at hkl;obtain⟨L,hL⟩:=exEq (uZ g fl t.nodes (k:Int));rw[←hL] at hat ⊢
  by_cases k3:t.nodes[k].kind=3
  ·rw[if_pos k3] at hat;subst hat
   cases hf:bf g t.nodes[k].text with
   | none=>
    have hfn:cI g t.nodes[k].text=-1:=by rw[cI,hf]
    have hS:fG W i (wdI (ix g p [t.nodes[k].text]))=W:=mW (by rw[hW,zD];simp[hf]);rw[hS];apply Sn.go hX;repeat' first|exact k9|refine k2 ?_|apply kA|apply kI;intro hc|apply kL;intro hl|(apply Sn.go hX;conv=>whnf)|((simp only[hfn])<;>conv=>whnf)|refine k8 ?_|fail
    exact dI.i rfl rfl
   | some j=>
    have hj:=(fM hf).1;have hfn:cI g t.nodes[k].text=(j:Int):=by rw[cI,hf]
    have hv:IntKind.u64.wrap ((BitVec.ofInt IntKind.u64.bits (W i) ||| BitVec.ofInt IntKind.u64.bits (IntKind.u64.wrap (1 * 2 ^ (min ((j:Nat):Int).toNat IntKind.u64.bits)))).toNat:Int)=wdI (ix g p [t.nodes[k].text]):=by
     rw[hW,Cd (by omega),DM,zD];refine mH fun b hb=>?_
     rw[hf]
     congr 1
     exact decide_eq_decide.2 ⟨fun e=>by rw[e],fun e=>by cases e;rfl⟩
    apply Sn.go hX;repeat' first|exact k9|refine k1 ?_|apply kA|apply kI;intro hc|apply kL;intro hl|((apply ExK.m;exact⟨Jm n W lo hi (by simp;omega)⟩)<;>conv=>whnf)|((apply FoA.m;exact⟨IK n W lo hi (by simp;omega) _⟩)<;>conv=>whnf)|refine k5 ?_|(apply Sn.go hX;conv=>whnf)|((simp only[hfn])<;>conv=>whnf)|refine k8 ?_|fail
    ·rw[hv];exact dI.i rfl rfl
  rw[if_neg k3] at hat
  by_cases k6:t.nodes[k].kind=6
  ·have hk1:t.nodes[k].kids.length=1:=by have:=kf2 (by omega);omega
   obtain⟨q,hq⟩:∃q:Nat,t.nodes[k].kids=[(q:Int)]:=by
    obtain⟨x,hx1⟩:=P2.1 hk1;refine⟨x.toNat,?_⟩;have:=hko x (by rw[hx1];simp);rw[hx1]
    congr 1
    omega
   have hql:=hko (q:Int) (by rw[hq];simp);have hq0:∀h:0<t.nodes[k].kids.length,t.nodes[k].kids[0]'h=(q:Int):=fun h=>by simp only[hq];rfl
   by_cases hm:t.nodes[k].max=0
   ·rw[if_pos ⟨k6,hm⟩] at hat;subst hat;have hS:fG W i (wdI (ix g p []))=W:=mW (by rw[hW,ur]);rw[hS];apply Sn.go hX;repeat' first|exact k9|refine k2 ?_|apply kA|apply kI;intro hc|(apply Sn.go hX;conv=>whnf)|refine k8 ?_|apply kL;intro hl
    exact dI.i rfl rfl
   ·rw[if_neg (fun h=>hm h.2),hq,oy g fl hkk _ (by omega),decide_eq_false (show ¬t.nodes[k].kind=4 by omega),aA] at hat;simp only[P5,OQ,if_false,Fo.cU,Oj] at hat;rw[hat];apply Sn.go hX;repeat' first|exact k9|refine k2 ?_|apply kA|apply kI;intro hc|apply kL;intro hl|(apply Sn.go hX;conv=>whnf)|((simp only[hq0])<;>conv=>whnf)|((refine fQ.i (ih q (by omega) (by omega) n lo p W hW _ _ _ _ _ _ _ rfl rfl rfl rfl rfl rfl) ?_)<;>conv=>whnf)|refine k8 ?_|fail
    exact dI.i rfl rfl
  rw[if_neg (fun h=>k6 h.1)] at hat
  by_cases k4:t.nodes[k].kind=4
  ·rw[decide_eq_true k4] at hat;apply Sn.go hX;repeat' first|exact k9|refine k2 ?_|apply kA|apply kI;intro hc|(apply Sn.go hX;conv=>whnf)|refine k8 ?_|apply kL;intro hl
   have hS0:fG W i (wdI (ix g p []))=W:=mW (by rw[hW,ur]);apply kCt [1,3,4,42,43,44] [];conv=>whnf
   refine Lp.ind (fun x:Nat×List ByteArray=>t.nodes[k].kids.length - x.1) (fun x=>x.1≤t.nodes[k].kids.length∧L=x.2++(aF t.nodes t.nodes.length (t.nodes[k].kids.drop x.1)).cU g fl true) (fun x=>[(44,InD x.1)]) (fun x=>[(1,.va 0 114 ((tf n (fG W i (wdI (ix g p x.2))) lo).map .fr))]) (fun _=>_) (0,[]) ⟨Oq _,hat⟩ rfl rfl (by dsimp only;rw[hS0];rfl) ?_
   rintro G ⟨j,M⟩ ihl ⟨hj,hT⟩
   dsimp only at hj hT ihl ⊢;obtain⟨p2,hp2⟩:=exEq (ix g p M);obtain⟨W2,hW2⟩:=exEq (fG W i (wdI p2));have hW2i:W2 i=wdI p2:=by rw[hW2,C0]
   have hnx:∀N,fG W2 i (wdI (ix g p2 N))=fG W i (wdI (ix g p (M++N))):=fun N=>by rw[hW2,v8,hp2,Au]
   rw[←hp2,←hW2]
   by_cases hy:j<t.nodes[k].kids.length
   ·obtain⟨q,hq⟩:∃q:Nat,t.nodes[k].kids[j]=q:=⟨t.nodes[k].kids[j].toNat,by have:=hko _ (Of hy);omega⟩
    have hqi:∀h:j<t.nodes[k].kids.length,t.nodes[k].kids[j]'h=(q:Int):=fun _=>hq
    have hql:=hko _ (Of hy);rw[hq] at hql;have hxq:∀h:q<X.length,X[q]'h=X.getD q .bot:=fun h=>by simp[List.getD_eq_getElem?_getD,h]
    rw[Oz hy,hq,oy g fl hkk _ (by omega),←hXX] at hT;apply Sn.go hX;repeat' first|exact k9|refine k2 ?_|apply kA|apply kI;intro hc|apply kL;intro hl|(apply Sn.go hX;conv=>whnf)|((simp only[hqi])<;>conv=>whnf)|((refine fQ.i (ih q (by omega) (by omega) n lo p2 W2 hW2i _ _ _ _ _ _ _ rfl rfl rfl rfl rfl rfl) ?_)<;>conv=>whnf)|refine k8 ?_|fail
    ·have hz:=hc;rw[hxq] at hz;rw[hz] at hT;simp only[QJ,RA,OQ,if_false] at hT;apply kCt [1,3,4,42,43,44] [];conv=>whnf
     exact ihl (j+1,M++uZ g fl t.nodes (q:Int)) _ _ _ (by dsimp only;omega) ⟨by dsimp only;omega,by rw[hT,List.append_assoc]⟩ rfl rfl (congrArg (fun z=>jX [(1,B.va 0 114 ((tf n z lo).map .fr))] G.h) (hnx _))
    ·have hz:=hc;rw[hxq] at hz;rw[hz] at hT;simp only[Q9,Qw,if_true,Oj] at hT;subst hT;rw[hnx];exact dI.i rfl rfl
   ·obtain rfl:j=t.nodes[k].kids.length:=by omega
    rw[Qi,aA,Fo.cU,Oj] at hT;subst hT;rw[←hp2,←hW2];apply Sn.go hX;repeat' first|exact k9|refine k2 ?_|apply kA|apply kI;intro hc|(apply Sn.go hX;conv=>whnf)|refine k8 ?_|apply kL;intro hl
    exact dI.i rfl rfl
  ·rw[decide_eq_false k4] at hat;apply Sn.go hX;repeat' first|exact k9|refine k2 ?_|apply kA|apply kI;intro hc|(apply Sn.go hX;conv=>whnf)|refine k8 ?_|apply kL;intro hl
   have hS0:fG W i (wdI (ix g p []))=W:=mW (by rw[hW,ur]);apply kCt [1,3,4,21,22,23] [];conv=>whnf
   refine Lp.ind (fun x:Nat×List ByteArray=>t.nodes[k].kids.length - x.1) (fun x=>x.1≤t.nodes[k].kids.length∧L=x.2++(aF t.nodes t.nodes.length (t.nodes[k].kids.drop x.1)).cU g fl false) (fun x=>[(23,InD x.1)]) (fun x=>[(1,.va 0 114 ((tf n (fG W i (wdI (ix g p x.2))) lo).map .fr))]) (fun _=>_) (0,[]) ⟨Oq _,hat⟩ rfl rfl (by dsimp only;rw[hS0];rfl) ?_
   rintro G ⟨j,M⟩ ihl ⟨hj,hT⟩
   dsimp only at hj hT ihl ⊢;obtain⟨p2,hp2⟩:=exEq (ix g p M);obtain⟨W2,hW2⟩:=exEq (fG W i (wdI p2));have hW2i:W2 i=wdI p2:=by rw[hW2,C0]
   have hnx:∀N,fG W2 i (wdI (ix g p2 N))=fG W i (wdI (ix g p (M++N))):=fun N=>by rw[hW2,v8,hp2,Au]
   rw[←hp2,←hW2]
   by_cases hy:j<t.nodes[k].kids.length
   ·obtain⟨q,hq⟩:∃q:Nat,t.nodes[k].kids[j]=q:=⟨t.nodes[k].kids[j].toNat,by have:=hko _ (Of hy);omega⟩
    have hqi:∀h:j<t.nodes[k].kids.length,t.nodes[k].kids[j]'h=(q:Int):=fun _=>hq
    have hql:=hko _ (Of hy);rw[hq] at hql;have hxq:∀h:q<X.length,X[q]'h=X.getD q .bot:=fun h=>by simp[List.getD_eq_getElem?_getD,h]
    rw[Oz hy,hq,oy g fl hkk _ (by omega),←hXX] at hT;apply Sn.go hX;repeat' first|exact k9|refine k2 ?_|apply kA|apply kI;intro hc|apply kL;intro hl|(apply Sn.go hX;conv=>whnf)|((simp only[hqi])<;>conv=>whnf)|((refine fQ.i (ih q (by omega) (by omega) n lo p2 W2 hW2i _ _ _ _ _ _ _ rfl rfl rfl rfl rfl rfl) ?_)<;>conv=>whnf)|refine k8 ?_|fail
    simp only[P5,OQ,if_false] at hT;apply kCt [1,3,4,21,22,23] [];conv=>whnf
    exact ihl (j+1,M++uZ g fl t.nodes (q:Int)) _ _ _ (by dsimp only;omega) ⟨by dsimp only;omega,by rw[hT,List.append_assoc]⟩ rfl rfl (congrArg (fun z=>jX [(1,B.va 0 114 ((tf n z lo).map .fr))] G.h) (hnx _))
   ·obtain rfl:j=t.nodes[k].kids.length:=by omega
    rw[Qi,aA,Fo.cU,Oj] at hT;subst hT;rw[←hp2,←hW2];apply Sn.go hX;repeat' first|exact k9|refine k2 ?_|apply kA|apply kI;intro hc|(apply Sn.go hX;conv=>whnf)|refine k8 ?_|apply kL;intro hl
    exact dI.i rfl rfl
end Go.Km
end
section
namespace Go.ab
open Go Go.Km
def jB(g:List Dfn)(i j:Nat):Bool:=decide (b4 g=0)&&decide (j∈iX g i)
def lh(g:List Dfn)(i:Nat):Bool:=decide (b4 g=0)&&cL g i
def pX(g:List Dfn):Int:=if b4 g=0 then (g.length:Int) else 0
theorem nO(p:Nat→Bool):∀n s,c9 p n s=((List.range' s n).filter p).head?
 | 0,s=>rfl
 | n+1,s=>by
  rw[c9,QA]
  by_cases h:p s=true
  ·rw[if_pos h,List.filter_cons_of_pos h];rfl
  ·rw[if_neg h,List.filter_cons_of_neg h,nO p n (s+1)]
theorem ri(p:Nat→Bool):(Ab p).head?=(c9 p 64 0).map Int.ofNat:=by
 rw[nO,Ab,List.range_eq_range',List.head?_map]
theorem uq{p q:Nat→Bool}{n N:Nat}(hn:n≤N)(h:∀j<N,q j=(decide (j<n)&&p j)):c9 q N 0=c9 p n 0:=by
 cases e:c9 p n 0 with
 | none=>
  have h1:=jM.1 e;refine jM.2 fun j _ hj=>?_
  rw[h j (by omega)]
  by_cases hjn:j<n
  ·rw[h1 j (by omega) (by omega),RA]
  ·rw[decide_eq_false hjn,P5]
 | some k=>
  obtain⟨_,h2,h3,h4⟩:=mD e;have hqk:q k=true:=by rw[h k (by omega),decide_eq_true (by omega),h3];rfl
  cases e2:c9 q N 0 with
  | none=>
   have:=jM.1 e2 k (by omega) (by omega);rw[hqk] at this
   cases this
  | some k2=>
   obtain⟨_,g2,g3,g4⟩:=mD e2;have hk2:k2<n∧p k2=true:=by
    rw[h k2 (by omega),Oi,decide_eq_true_iff] at g3;exact g3
   congr 1
   by_cases e3:k2<k
   ·rw[h4 k2 (by omega) e3] at hk2
    cases hk2.2
   ·by_cases e4:k<k2
    ·rw[g4 k (by omega) e4] at hqk
     cases hqk
    ·omega
theorem GN{g:List Dfn}(hm:b4 g=0)(h64:g.length≤64)(a b:Nat):Af (jB g) a b↔b∈iX g a:=by
 unfold Af jB;rw[decide_eq_true hm,PG,decide_eq_true_iff];refine⟨fun h=>h.2.2,fun h=>⟨?_,?_,h⟩⟩
 ·by_cases e:a<g.length
  ·omega
  ·rw[iX,OG (by omega)] at h
   cases h
 ·have:=w8 g a b h;omega
theorem GU{g:List Dfn}(hm:b4 g=0)(h64:g.length≤64)(i:Nat):lZ (jB g) i=(decide (i<g.length)&&gr g i):=by
 have hr:Af (jB g)=fun a b=>b∈iX g a:=by funext a b;exact propext (GN hm h64 a b)
 rw[OV,lZ,@decide_eq_true_iff _ (Classical.propDecidable _),hr,Oi,decide_eq_true_iff]
 by_cases e:i<g.length
 ·rw[wj e];exact⟨fun h=>⟨e,h⟩,fun h=>h.2⟩
 ·refine⟨fun h=>?_,fun h=>absurd h.1 e⟩
  exfalso
  have:∀c,¬l8 (fun a b=>b∈iX g a) i c:=by
   intro c h
   induction h with
   | one h1=>rw[iX,OG (by omega)] at h1;cases h1
   | more _ _ ih=>exact ih
  exact this i h
theorem B2{g:List Dfn}(hm:b4 g=0)(h64:g.length≤64):(Ab (lZ (jB g))).head?=(c9 (gr g) g.length 0).map Int.ofNat:=by
 rw[ri,uq h64 fun j _=>GU hm h64 j]
theorem AO{g:List Dfn}(hm:b4 g=0)(h64:g.length≤64):(Ab (lh g)).head?=(c9 (cL g) g.length 0).map Int.ofNat:=by
 rw[ri,uq h64 fun j _=>?_];unfold lh;rw[decide_eq_true hm,PG]
 by_cases e:j<g.length
 ·simp[e]
 ·simp[e,cL]
end Go.ab
namespace Go.Km
open Go Go.Vc Go.Proofs Go.ab Go.Proofs.YthebhpcjcihjgaaGreatDoor
set_option maxRecDepth 100000
set_option maxHeartbeats 0
theorem GQ{g:List Dfn}{i:Nat}(hi:i<g.length):ix g (fun _=>false) (uZ g (cz g) g[i].body.nodes g[i].body.root)=fun j=>decide (j∈iX g i):=by
 funext j
 rw[ix,Qy,OV,Po,decide_eq_true_iff,iX,Oe hi];simp only[QZ,decide_eq_true_eq];rfl
def s6(g:List Dfn)(i j:Nat):Int:=if j<i then wdI (fun b=>decide (b∈iX g j)) else 0
theorem D6{g:List Dfn}{i:Nat}:fG (s6 g i) i (wdI fun b=>decide (b∈iX g i))=s6 g (i+1):=by
 funext j
 unfold fG s6
 by_cases e:j=i
 ·subst e;simp
 ·rw[if_neg e]
  by_cases h:j<i
  ·rw[if_pos h,if_pos (by omega)]
  ·rw[if_neg h,if_neg (by omega)]
instance(g:List Dfn):C 74 [aN g] (.tp [.ag (tf (pX g) (fun i=>wdI (jB g i)) (wdI (lh g))),inF (b4 g)]) true (g.length≤1000∧∀d∈g,d.wf):=⟨fun ⟨hn,hw⟩=>by
 have hpre:g.length≤1000∧∀d∈g,d.wf:=⟨hn,hw⟩
 have hX:=pG [] [108]
 by_cases hm:b4 g=0
 ·have ok:=eO hm;have e1:(fun i=>wdI (jB g i))=fun i=>wdI (fun b=>decide (b∈iX g i)):=by funext i;unfold jB;simp[hm]
  have e2:lh g=cL g:=by funext i;unfold lh;simp[hm]
  have e3:pX g=(g.length:Int):=by rw[pX,if_pos hm]
  have e4:(cR g).1=cz g:=by rw[cR,if_pos hm]
  have e5:(cR g).2=0:=by rw[cR,if_pos hm]
  rw[e1,e2,e3,hm];refine fK hX rfl rfl ?_;repeat' first|exact k9|refine k2 ?_|apply kA|apply kI;intro hc|apply kL;intro hl|(apply Sn.go hX;conv=>whnf)|((simp only[e5])<;>conv=>whnf)|((simp only[e4])<;>conv=>whnf)|refine k8 ?_|fail
  clear e1 e2 e3 e4 e5;apply kCt [1,2,4,6,25,26,27] [];conv=>whnf
  refine Lp.ind (fun z:Nat=>g.length - z) (fun z=>z≤g.length) (fun z=>[(27,InD z)]) (fun z=>[(2,.va 0 114 ((tf (g.length:Int) (s6 g z) (wdI fun j=>decide (j<z)&&cL g j)).map .fr))]) (fun _=>_) 0 (Oq _) rfl rfl ?_ ?_
  ·have e0:wdI (fun j=>decide (j<0)&&cL g j)=0:=(mH fun j _=>by simp).trans nj;rw[e0,Ok];rfl
  rintro G i ih hi
  obtain⟨W,hW⟩:=exEq (s6 g i);obtain⟨lo,hlo⟩:=exEq (wdI (fun j=>decide (j<i)&&cL g j));rw[←hW,←hlo];have h64:=ok.len
  by_cases hx:i<g.length
  ·have hmem:=Of hx;have hwb:=(hw _ hmem).body;have hRt:=ok.right hmem;have hfl:=vD g;have hnp:(g.length≤1000∧eL g=false)∧(cz g).length=g.length∧g[i].body.wf∧ax g[i].body∧kD g g[i].body.nodes:=⟨⟨hn,ok.Ke⟩,hfl,hwb,hRt,ok.named _ hmem⟩
   obtain⟨q,hq⟩:∃q:Nat,g[i].body.root=q:=⟨g[i].body.root.toNat,by have:=hRt.root;omega⟩
   have hql:=hRt.root.2;rw[hq] at hql;have hXl:=cE g (cz g) g[i].body.nodes;have hep:g[i].body.wf∧ax g[i].body∧(aG g (cz g) g[i].body.nodes).length=g[i].body.nodes.length:=⟨hwb,hRt,hXl⟩
   have hW0:W i=wdI (fun _=>false):=by rw[hW,s6,if_neg (by omega),nj]
   have hlp:tQ (aG g (cz g) g[i].body.nodes) g[i].body.nodes=cL g i:=by rw[FI g _ hRt,cL,Oe hx]
   have hWn:fG W i (wdI (ix g (fun _=>false) (uZ g (cz g) g[i].body.nodes g[i].body.root)))=s6 g (i+1):=by rw[GQ hx,hW,D6]
   have hlef:=Fx (g:=g) (t:=g[i].body) (fl:=cz g) rfl h64 hwb hRt (show i<64 by omega) q (by omega);unfold Ki at hlef;rw[←hq] at hlef;apply Sn.go hX;repeat' first|exact k9|refine k2 ?_|apply kA|apply kI;intro hc|(apply Sn.go hX;conv=>whnf)|((refine fQ.i (hlef (g.length:Int) lo (fun _=>false) W hW0 _ _ _ _ _ _ _ rfl rfl rfl rfl rfl rfl) ?_)<;>conv=>whnf)|refine k8 ?_|apply kL;intro hl
   ·have hl:cL g i=true:=by rw[←hlp];exact hc
    have hlo2:IntKind.u64.wrap ((BitVec.ofInt IntKind.u64.bits lo ||| BitVec.ofInt IntKind.u64.bits (IntKind.u64.wrap (1 * 2 ^ (min ((i:Nat):Int).toNat IntKind.u64.bits)))).toNat:Int)=wdI (fun j=>decide (j<i+1)&&cL g j):=by
     rw[hlo,Cd (by omega),DM];refine mH fun j hj=>?_
     by_cases e:j=i
     ·subst e;simp[hl]
     ·have h1:decide (j<i+1)=decide (j<i):=decide_eq_decide.2 (by omega);simp[e,h1]
    apply kCt [1,2,4,6,25,26,27] [];conv=>whnf
    refine ih (i+1) _ _ _ (by omega) (by omega) rfl rfl ?_;exact congrArg (fun z:(Nat→Int)×Int=>jX [(2,B.va 0 114 ((tf (g.length:Int) z.1 z.2).map .fr))] G.h) (Prod.ext hWn hlo2:(fG W i _,_)=(s6 g (i+1),_))
   ·have hl:cL g i=false:=by rw[←hlp];exact hc
    have hlo2:lo=wdI (fun j=>decide (j<i+1)&&cL g j):=by
     rw[hlo];refine mH fun j hj=>?_
     by_cases e:j=i
     ·subst e;simp[hl]
     ·have h1:decide (j<i+1)=decide (j<i):=decide_eq_decide.2 (by omega);simp[h1]
    apply kCt [1,2,4,6,25,26,27] [];conv=>whnf
    refine ih (i+1) _ _ _ (by omega) (by omega) rfl rfl ?_;exact congrArg (fun z:(Nat→Int)×Int=>jX [(2,B.va 0 114 ((tf (g.length:Int) z.1 z.2).map .fr))] G.h) (Prod.ext hWn hlo2:(fG W i _,_)=(s6 g (i+1),_))
  ·obtain rfl:i=g.length:=by omega
   rw[hW,hlo];have e6:s6 g g.length=fun i=>wdI (fun b=>decide (b∈iX g i)):=by
    funext j
    unfold s6
    by_cases h:j<g.length
    ·rw[if_pos h]
    ·rw[if_neg h,show(fun b=>decide (b∈iX g j))=fun _=>false from by
      funext b
      rw[iX,OG (by omega)];simp,nj]
   have e7:(fun j=>decide (j<g.length)&&cL g j)=cL g:=by
    funext j
    by_cases h:j<g.length
    ·simp[h]
    ·simp[h,cL]
   rw[e6,e7];apply Sn.go hX;repeat' first|exact k9|refine k2 ?_|apply kA|apply kI;intro hc|(apply Sn.go hX;conv=>whnf)|refine k8 ?_|apply kL;intro hl
   exact aa.j rfl rfl
 ·have e1:(fun i=>wdI (jB g i))=fun _=>0:=by funext i;unfold jB;simp[hm,nj]
  have e2:wdI (lh g)=0:=by rw[show lh g=fun _=>false from by funext i;unfold lh;simp[hm],nj]
  have e3:pX g=0:=by rw[pX,if_neg hm]
  have e5:(cR g).2=b4 g:=by rw[cR,if_neg hm]
  rw[e1,e2,e3];refine fK hX rfl rfl ?_;repeat' first|exact k9|refine k2 ?_|apply kA|apply kI;intro hc|apply kL;intro hl|(apply Sn.go hX;conv=>whnf)|((simp only[e5])<;>conv=>whnf)|refine k8 ?_|fail
  exact aa.j rfl rfl⟩
theorem zz{L:List Int}{o:Option Nat}(h:L.head?=o.map Int.ofNat)(h0:0<L.length):∃i:Nat,o=some i∧L[0]=(i:Int):=by
 cases o with
 | none=>
  cases L with
  | nil=>simp at h0
  | cons a L=>simp at h
 | some i=>
  cases L with
  | nil=>simp at h0
  | cons a L=>
   simp at h;exact⟨i,rfl,h⟩
theorem uU{L:List Int}{o:Option Nat}(h:L.head?=o.map Int.ofNat)(h0:¬0<L.length):o=none:=by
 cases L with
 | nil=>cases o with
  | none=>rfl
  | some i=>simp at h
 | cons a L=>simp at h0
theorem jL.i{P:Program}{Γ:Nat→Option (List F)}{f:Nat}{l:List F}{r:F}{b:Bool}{pre:Prop}{k:F×Bool→Prop}(h:KC P Γ f l r b pre)(hp:pre)(hk:k (r,b)):jL P Γ f l k:=⟨(r,b),h.h hp,hk⟩
instance(g:List Dfn):C 35 [aN g] (.tp [inF (gQ g).1,inF (gQ g).2]) true (g.length≤1000∧∀d∈g,d.wf):=⟨fun ⟨hn,hw⟩=>by
 have hpre:g.length≤1000∧∀d∈g,d.wf:=⟨hn,hw⟩
 by_cases hm:b4 g=0
 ·have h64:=(eO hm).len;have h1:=B2 hm h64;have h2:=AO hm h64;refine kf rfl rfl ?_;repeat' first|exact k9|refine k2 ?_|apply kA|apply kI;intro hc|(apply Sn.go hX;conv=>whnf)|((refine jL.i (Lr (pX g) (jB g) (wdI (lh g))) trivial ?_)<;>conv=>whnf)|refine k8 ?_|apply kL;intro hl
  ·obtain⟨i,hi1,hi2⟩:=zz h1 (by omega);exact aa.j (by rw[gQ,if_pos hm,hi1,hi2]) rfl
  ·obtain⟨i,hi1,hi2⟩:=zz h2 (by omega);exact aa.j (by rw[gQ,if_pos hm,uU h1 (by omega),hi1,hi2]) rfl
  ·exact aa.j (by rw[gQ,if_pos hm,uU h1 (by omega),uU h2 (by omega)]) rfl
 ·have hW:gQ g=(0,b4 g):=by rw[gQ,if_neg hm]
  rw[hW];refine kf rfl rfl ?_;repeat' (first|exact k9|refine k2 ?_|apply kA|apply kI;intro hc|(apply Sn.go hX;conv=>whnf)|refine k8 ?_|apply kL;intro hl)⟩
instance(g:List Dfn):C 17 [aN g] (inF (dL g)) true (g.length≤1000∧∀d∈g,d.wf):=⟨fun h=>by
 refine kf rfl rfl ?_;repeat' first|exact k9|refine k2 ?_|apply kA|apply kI;intro hc|(apply Sn.go hX;conv=>whnf)|refine k8 ?_|apply kL;intro hl
 exact aa.n rfl rfl⟩
end Go.Km
end
section
namespace Go.ab
open Go Go.Sl
structure WA(ar:List Nod)(bX:List Int):Prop where
 ok:NOk 0 ar
 rng:∀x∈bX,0≤x∧x<ar.length
 cnt:∀i:Nat,i<ar.length→(aB ar).count (i:Int)+bX.count (i:Int)=1
theorem WA.nil:WA [] []:=⟨fun j n h=>by simp at h,by simp,fun i h=>by simp at h⟩
theorem NOk.kok{ar:List Nod}(h:NOk 0 ar):KOk ar:=fun i n hi k hk=>by have:=(h i n hi).2 k hk;omega
theorem WA.IJ{ar:List Nod}{bX:List Int}(h:WA ar bX):∀k∈aB ar,k<(ar.length:Int):=by
 intro k hk;obtain⟨n,hn,hkn⟩:=Qg.1 hk;obtain⟨i,hi⟩:=PS.1 hn;have h1:=(h.ok i n hi).2 k hkn;have:=(Ox.1 hi).1;omega
theorem WA.perm{ar:List Nod}{a b:List Int}(h:WA ar a)(p:a.Perm b):WA ar b:=⟨h.ok,fun x hx=>h.rng x (p.mem_iff.2 hx),fun i hi=>by rw[←p.count_eq];exact h.cnt i hi⟩
theorem WA.snoc{ar:List Nod}{bX rest:List Int}{n:Nod}(h:WA ar bX)(hf:fits n n.kids.length=true)(hp:bX.Perm (n.kids++rest)):WA (ar++[n]) ((ar.length:Int) :: rest):=by
 have hk:∀k∈n.kids,0≤k∧k<(ar.length:Int):=fun k hk=>h.rng k (hp.mem_iff.2 (QM _ hk))
 refine⟨NOk.app h.ok fun j m hj=>?_,fun x hx=>?_,fun i hi=>?_⟩
 ·cases j with
  | zero=>
   simp at hj;subst hj;exact⟨hf,fun k hkk=>by have:=hk k hkk;simp;omega⟩
  | succ j=>simp at hj
 ·rcases OD.1 hx with rfl|hx
  ·simp;omega
  ·have:=h.rng x (hp.mem_iff.2 (Re _ hx));simp;omega
 ·rw[pI,OP,Pr]
  by_cases e:i<ar.length
  ·have h1:=h.cnt i e;rw[hp.count_eq,OP] at h1;have h2:((ar.length:Int)==(i:Int))=false:=by simp;omega
   rw[h2];simp;omega
  ·have h0:i=ar.length:=by simp at hi;omega
   subst h0;have h1:(aB ar).count (ar.length:Int)=0:=O8.2 fun hm=>by have:=h.IJ _ hm;omega
   have h2:n.kids.count (ar.length:Int)=0:=O8.2 fun hm=>by have:=(hk _ hm).2;omega
   have h3:rest.count (ar.length:Int)=0:=O8.2 fun hm=>by have:=(h.rng _ (hp.mem_iff.2 (Re _ hm))).2;omega
   rw[h1,h2,h3];simp
theorem WA.right{ar:List Nod}{r:Int}(h:WA ar [r]):ax ⟨ar,r⟩:=by
 have hr:=h.rng r (by simp);refine⟨hr,fun i n hi=>(h.ok i n hi).1,h.ok.kok,fun i hi=>?_⟩;have:=h.cnt i hi;rw[Pr,Rz] at this
 by_cases e:(i:Int)=r
 ·subst e;simp at this ⊢;exact this
 ·have e':(r==(i:Int))=false:=by simp;omega
  rw[e'] at this;simp at this;rw[if_neg e];exact this
def szN(ns:List Nod)(x:Int):Nat:=(aF ns ns.length [x]).size
theorem szL(ns:List Nod)(hf:0<ns.length):∀l:List Int,(aF ns ns.length l).size=(l.map (szN ns)).sum
 | []=>by rw[aA];rfl
 | x :: l=>by rw[bk x l hf,Fo.eo,szL ns hf l];rfl
theorem BF{ns:List Nod}(hc:cb (ah ns)){x:Int}(h0:0≤x)(hx:x<ns.length):szN ns x=((ah ns x).map (szN ns)).sum+1:=by
 rw[szN,gl hc h0 hx,Fo.size,szL ns (by omega)];rfl
structure Bfs(ns:List Nod)(root:Int)(i:Nat)(row:List Int):Prop where
 eq:row=root :: (row.take i).flatMap (ah ns)
 le:i≤row.length
 mem:∀x∈row,0≤x∧x<ns.length
 sum:i+((row.drop i).map (szN ns)).sum=szN ns root
 E:∀p<i,p<1+((row.take p).flatMap (ah ns)).length
theorem Bfs.zero{ns:List Nod}{root:Int}(h0:0≤root)(h1:root<ns.length):Bfs ns root 0 [root]:=⟨by simp,by simp,by simp;omega,by simp,fun p h=>by omega⟩
theorem Bfs.step{ns:List Nod}(hk:KOk ns){root:Int}{i:Nat}{row:List Int}(h:Bfs ns root i row)(hi:i<row.length):Bfs ns root (i+1) (row++ah ns row[i]):=by
 have hc:=hk.ah;have ht:(row++ah ns row[i]).take (i+1)=row.take i++[row[i]]:=by
  rw[PM (by omega),List.take_succ_eq_append_getElem hi]
 have hm:=h.mem _ (Of hi);refine⟨?_,by simp;omega,?_,?_,?_⟩
 ·rw[ht,PE,←List.cons_append,←h.eq];simp
 ·intro x hx;rcases Oy.1 hx with hx|hx
  ·exact h.mem x hx
  ·have:=hc _ _ hx;omega
 ·have h1:=h.sum;rw[Oz hi,OB,P4,BF hc hm.1 hm.2] at h1;rw[P8 (by omega),List.map_append,List.sum_append];omega
 ·intro p hp;rw[PM (by omega)]
  by_cases e:p<i
  ·exact h.E p e
  ·obtain rfl:p=i:=by omega
   have:=congrArg List.length h.eq;simp only[Og] at this;omega
theorem JA{ns:List Nod}(hc:cb (ah ns)){x:Int}(h0:0≤x)(hx:x<ns.length):0<szN ns x:=by rw[BF hc h0 hx];omega
theorem GC{f:Int→Nat}:∀l:List Int,(∀x∈l,0<f x)→l.length≤(l.map f).sum
 | [],_=>by simp
 | x :: l,h=>by
  have h1:=h x (by simp);have h2:=GC l fun y hy=>h y (by simp[hy])
  simp;omega
theorem Bfs.len{ns:List Nod}(hk:KOk ns){root:Int}{i:Nat}{row:List Int}(h:Bfs ns root i row):row.length≤szN ns root:=by
 have h1:=GC (f:=szN ns) (row.drop i) fun x hx=>by
  have:=h.mem x (OM hx);exact JA hk.ah this.1 this.2
 have h2:=h.sum;have h3:=h.le;rw[OX] at h1;omega
def bE(ns:List Nod)(row:List Int)(p:Nat):Nat:=1+((row.take p).flatMap (ah ns)).length
def eD(ns:List Nod)(row:List Int)(b p:Nat):List Int:=(List.range (ah ns (row.getD p 0)).length).map fun j=>((b+row.length:Nat):Int) - 1 - ((bE ns row p+j:Nat):Int)
def gN(ns:List Nod)(row:List Int)(b p:Nat):Nod:={ ns.getD (row.getD p 0).toNat .zero with kids:=eD ns row b p }
def gA(ar:List Nod)(ns:List Nod)(row:List Int)(m:Nat):List Nod:=ar++(List.range m).map fun j=>gN ns row ar.length (row.length - 1 - j)
theorem wZ(ar ns:List Nod)(row:List Int)(m:Nat):(gA ar ns row m).length=ar.length+m:=by simp[gA]
theorem sE(ar ns:List Nod)(row:List Int)(m:Nat):gA ar ns row (m+1)=gA ar ns row m++[gN ns row ar.length (row.length - 1 - m)]:=by simp[gA,Qv]
theorem mL{l:List Int}{i:Nat}(h:i<l.length):l.getD i 0=l[i]:=by simp[List.getD_eq_getElem?_getD,h]
theorem sj{ns:List Nod}{row:List Int}{p:Nat}(hp:p<row.length):bE ns row (p+1)=bE ns row p+(ah ns (row.getD p 0)).length:=by
 rw[bE,bE,List.take_succ_eq_append_getElem hp,PE,Oh,mL hp];simp;omega
structure Row(ns:List Nod)(root:Int)(row:List Int):Prop where
 b:Bfs ns root row.length row
theorem Row.eq{ns:List Nod}{root:Int}{row:List Int}(h:Row ns root row):row=root :: row.flatMap (ah ns):=by
 have:=h.b.eq
 rwa [OU] at this
theorem Row.pos{ns:List Nod}{root:Int}{row:List Int}(h:Row ns root row):0<row.length:=by rw[h.eq];simp
theorem Row.end_{ns:List Nod}{root:Int}{row:List Int}(h:Row ns root row):bE ns row row.length=row.length:=by
 have:=congrArg List.length h.b.eq;simp only[Og] at this;rw[bE];omega
theorem wX{ns:List Nod}{row:List Int}:∀{p q:Nat},p≤q→q≤row.length→bE ns row p≤bE ns row q:=by
 intro p q h
 induction h with
 | refl=>intro _;exact Ov _
 | step h ih=>rename_i m;intro hq;have:=ih (by omega);have:=sj (ns:=ns) (row:=row) (p:=m) (by omega);rw[this];omega
theorem Row.kid{ns:List Nod}{root:Int}{row:List Int}(h:Row ns root row){p j:Nat}(hp:p<row.length)(hj:j<(ah ns (row.getD p 0)).length):row[bE ns row p+j]?=some ((ah ns (row.getD p 0))[j]):=by
 have e:=h.eq;have hsp:row.flatMap (ah ns)=(row.take p).flatMap (ah ns)++(ah ns (row.getD p 0)++(row.drop (p+1)).flatMap (ah ns)):=by
  conv=>lhs;rw[←List.take_append_drop p row,Oz hp]
  rw[PE,OR,mL hp]
 have:(root :: row.flatMap (ah ns))[bE ns row p+j]?=some ((ah ns (row.getD p 0))[j]):=by
  rw[bE,show 1+((row.take p).flatMap (ah ns)).length+j=((row.take p).flatMap (ah ns)).length+j+1 by omega,O4,hsp,OL (by omega),PW,O6 hj,Oe hj]
 rw[←e] at this;exact this
theorem qZ{ar ns:List Nod}{f g:Nat}(hf:0<f)(hg:0<g):∀{l m:List Int},l.length=m.length→(∀(j:Nat) (h1:j<l.length) (h2:j<m.length),aF ar f [l[j]]=aF ns g [m[j]])→aF ar f l=aF ns g m
 | [],[],_,_=>by rw[aA,aA]
 | a :: l,b :: m,e,h=>by
  rw[bk a l hf,bk b m hg,qZ hf hg (l:=l) (m:=m) (by simpa using e) fun j h1 h2=>h (j+1) (QB h1) (QB h2)];exact congrArg (fun z=>Fo.app z (aF ns g m)) (show aF ar f [a]=aF ns g [b] from h 0 (QU _) (QU _))
 | [],_ :: _,e,_=>by simp at e
 | _ :: _,[],e,_=>by simp at e
def jR(ns:List Nod)(row:List Int)(b p:Nat):List Int:=(List.range' p (bE ns row p - p)).map fun q:Nat=>((b+row.length:Nat):Int) - 1 - (q:Int)
structure GrI(ar:List Nod)(T:List Int)(ns:List Nod)(row:List Int)(m:Nat):Prop where
 wa:WA (gA ar ns row m) (T++jR ns row ar.length (row.length - m))
 den:∀p:Nat,row.length - m≤p→p<row.length→Den (gA ar ns row m) (((ar.length+row.length:Nat):Int) - 1 - (p:Int)) (aF ns ns.length [row.getD p 0])
theorem JD{ar:List Nod}{T:List Int}{ns:List Nod}{root:Int}{row:List Int}(h:WA ar T)(hr:Row ns root row):GrI ar T ns row 0:=by
 refine⟨?_,fun p h1 h2=>by omega⟩;rw[O9,jR,hr.end_,Pt];simpa [gA] using h
theorem Jj{ar:List Nod}{T:List Int}{t:Tre}(hR:ax t){root:Int}{row:List Int}(hr:Row t.nodes root row){m:Nat}(h:GrI ar T t.nodes row m)(hm:m<row.length):GrI ar T t.nodes row (m+1):=by
 obtain⟨ns,hns⟩:=exEq (t.nodes);have hk:KOk ns:=by rw[hns];exact hR.kok
 have hc:=hk.ah;rw[←hns] at h hr ⊢;obtain⟨p,hp⟩:=exEq (row.length - 1 - m);have hpl:p<row.length:=by omega
 have hx:=hr.b.mem _ (Of hpl);have hgd:=mL hpl;have hE:p<bE ns row p:=hr.b.E p hpl;have hE2:=sj (ns:=ns) hpl;have hE3:=wX (ns:=ns) (p:=p+1) (q:=row.length) (by omega) (Ov _);rw[hr.end_] at hE3;have hlen:=wZ ar ns row m;have hkl:(eD ns row ar.length p).length=(ah ns (row.getD p 0)).length:=by simp[eD]
 have hkg:∀(j:Nat) (hj:j<(eD ns row ar.length p).length),(eD ns row ar.length p)[j]=((ar.length+row.length:Nat):Int) - 1 - ((bE ns row p+j:Nat):Int):=fun j hj=>by simp[eD]
 have hch:ah ns (row.getD p 0)=(ns.getD (row.getD p 0).toNat .zero).kids:=by
  rw[hgd];obtain⟨q,hq⟩:∃q:Nat,row[p]=q:=⟨row[p].toNat,by omega⟩
  rw[hq] at hx ⊢;have hql:q<ns.length:=by omega
  rw[←aM (Oe hql)];simp[List.getD_eq_getElem?_getD,hql]
 have hfit:fits (gN ns row ar.length p) (gN ns row ar.length p).kids.length=true:=by
  show fits { ns.getD (row.getD p 0).toNat .zero with kids:=eD ns row ar.length p } ((eD ns row ar.length p).length:Int)=true
  rw[mP,hkl,hch];refine hR.fits (row.getD p 0).toNat _ ?_;have hlt:(row.getD p 0).toNat<ns.length:=by rw[hgd];omega
  rw[←hns,Oe hlt,List.getD_eq_getElem?_getD (l:=ns),Oe hlt];rfl
 have hden:∀(j:Nat) (hj:j<(eD ns row ar.length p).length),Den (gA ar ns row m) ((eD ns row ar.length p)[j]) (aF ns ns.length [(ah ns (row.getD p 0))[j]'(by rw[←hkl];exact hj)]):=fun j hj=>by
  have hj2:j<(ah ns (row.getD p 0)).length:=by rw[←hkl];exact hj
  have hrk:=hr.kid hpl hj2;obtain⟨hlt,hv⟩:=Ox.1 hrk;have:=h.den (bE ns row p+j) (by omega) hlt;rw[mL hlt,hv] at this;rw[hkg];exact this
 have hf0:0<ns.length:=by omega
 have hnum:((gA ar ns row m).length:Int)=((ar.length+row.length:Nat):Int) - 1 - (p:Int):=by rw[hlen];omega
 refine⟨?_,fun q h1 h2=>?_⟩
 ·rw[sE,←hp];have hpe:jR ns row ar.length (row.length - m)=(List.range' (p+1) (bE ns row p - (p+1))).map (fun q:Nat=>((ar.length+row.length:Nat):Int) - 1 - (q:Int))++eD ns row ar.length p:=by
   rw[jR,show row.length - m=p+1 by omega,hE2,show bE ns row p+(ah ns (row.getD p 0)).length - (p+1)=(bE ns row p - (p+1))+(ah ns (row.getD p 0)).length by omega,←List.range'_append_1,List.map_append]
   congr 1
   rw[show p+1+(bE ns row p - (p+1))=bE ns row p by omega,eD,List.range'_eq_map_range,Rv];rfl
  have hpn:jR ns row ar.length (row.length - (m+1))=(((gA ar ns row m).length:Nat):Int) :: (List.range' (p+1) (bE ns row p - (p+1))).map (fun q:Nat=>((ar.length+row.length:Nat):Int) - 1 - (q:Int)):=by
   rw[jR,show row.length - (m+1)=p by omega,show bE ns row p - p=(bE ns row p - (p+1))+1 by omega,QA,OB,hnum]
  have hwa:=h.wa;rw[hpe,←List.append_assoc] at hwa;have:=hwa.snoc (n:=gN ns row ar.length p) (rest:=T++(List.range' (p+1) (bE ns row p - (p+1))).map (fun q:Nat=>((ar.length+row.length:Nat):Int) - 1 - (q:Int))) hfit List.perm_append_comm;rw[hpn];refine this.perm ?_;exact List.perm_middle.symm
 ·rw[sE,←hp];have hok:=h.wa.ok.kok.ah
  by_cases e:q=p
  ·subst e;rw[←hnum];have hd:=Den.snoc (n:=gN ns row ar.length q) hok (fun k hkk=>by
    obtain⟨j,hj,rfl⟩:=OT (show k∈eD ns row ar.length q from hkk);have:=hden j hj;exact⟨this.pos,this.lt⟩)
   have e1:aF ns ns.length [row.getD q 0]=.cons { gN ns row ar.length q with kids:=[] } (aF (gA ar ns row m) (gA ar ns row m).length (gN ns row ar.length q).kids) .nil:=by
    rw[gl hc (by rw[hgd];omega) (by rw[hgd];omega)];rw[show(gN ns row ar.length q).kids=eD ns row ar.length q from rfl]
    by_cases e0:(eD ns row ar.length q).length=0
    ·have e3:eD ns row ar.length q=[]:=OJ e0;have e4:ah ns (row.getD q 0)=[]:=OJ (by rw[←hkl];exact e0);rw[e3,e4,aA,aA];rfl
    ·have h0:=(hden 0 (by omega)).lt;rw[qZ (ns:=ns) (g:=ns.length) (m:=ah ns (row.getD q 0)) (by have:=(hden 0 (by omega)).pos;omega) hf0 hkl fun j h1 h2=>(hden j h1).fo];rfl
   rw[e1];exact hd
  ·exact Den.app hok (h.den q (by omega) h2)
theorem yG{ar:List Nod}{T:List Int}(h:WA ar T){t:Tre}(hR:ax t){root:Int}{row:List Int}(hr:Row t.nodes root row) :
  WA (gA ar t.nodes row row.length) (T++[((gA ar t.nodes row row.length).length:Int) - 1])∧Den (gA ar t.nodes row row.length) (((gA ar t.nodes row row.length).length:Int) - 1) (aF t.nodes t.nodes.length [root]):=by
 have key:∀m,m≤row.length→GrI ar T t.nodes row m:=by
  intro m
  induction m with
  | zero=>exact fun _=>JD h hr
  | succ m ih=>exact fun hm=>Jj hR hr (ih (by omega)) (by omega)
 have hg:=key row.length (Ov _);have hpos:=hr.pos;have e0:row.getD 0 0=root:=by rw[hr.eq];rfl
 have hl:=wZ ar t.nodes row row.length;have hn:((gA ar t.nodes row row.length).length:Int) - 1=((ar.length+row.length:Nat):Int) - 1 - ((0:Nat):Int):=by rw[hl];omega
 refine⟨?_,?_⟩
 ·have:=hg.wa;rw[Pt,jR,show bE t.nodes row 0 - 0=1 by simp[bE]] at this;rw[hn];exact this
 ·have:=hg.den 0 (by omega) hpos;rw[e0] at this;rw[hn];exact this
def Fo.setAt:Nat→Fo→Fo→Fo
 | _,G,.nil=>.nil
 | 0,G,.cons _ _ r=>G.app r
 | i+1,G,.cons n k r=>.cons n k (Fo.setAt i G r)
def cM(ns:List Nod):Int→List Int→Option (List (Int×Int)×Int)
 | k,[]=>some ([],k)
 | k,p :: ps=>if p<0 then none else match (ah ns k)[p.toNat]? with
  | some x=>(match cM ns x ps with
   | some (l,e)=>some ((k,p) :: l,e)
   | none=>none)
  | none=>none
def upS(ns:List Nod)(a:Int×Int)(F:Fo):Fo:=.cons (dat ns a.1) (Fo.setAt a.2.toNat F (aF ns ns.length (ah ns a.1))) .nil
def upF(ns:List Nod)(row:List (Int×Int))(X:Fo):Fo:=row.foldr (upS ns) X
def cx(t:Tre)(path:List Int)(x:Tre):Tre×Bool:=
 if (ao t&&ao x)=true then (match cM t.nodes t.root path with
  | some (row,_)=>(aR (upF t.nodes row (foT x)).norm,true)
  | none=>(.zero,false))
 else (.zero,false)
def gi(t:Tre)(path:List Int):Tre×Bool:=
 if ao t=true then (match cM t.nodes t.root path with
  | some (_,k)=>(aC t k,true)
  | none=>(.zero,false))
 else (.zero,false)
def HI(ns:List Nod)(row:List (Int×Int)):Prop:=∀a∈row,(0≤a.1∧a.1<ns.length)∧0≤a.2∧a.2<(ah ns a.1).length
theorem kG{ns:List Nod}(hc:cb (ah ns)):∀(path:List Int) (k:Int),0≤k→k<ns.length→∀l e,cM ns k path=some (l,e)→HI ns l∧0≤e∧e<ns.length∧l.length=path.length
 | [],k,h0,h1,l,e,h=>by
  simp only[cM,PA,Qa] at h;obtain⟨rfl,rfl⟩:=h;exact⟨by simp[HI],h0,h1,rfl⟩
 | p :: ps,k,h0,h1,l,e,h=>by
  rw[cM] at h
  split at h
  ·cases h
  ·rename_i hp
   split at h
   ·rename_i x hx;have hm:=OI hx;have:=hc k x hm;obtain⟨hlt,_⟩:=Ox.1 hx
    split at h
    ·rename_i l' e' hd
     cases h;obtain⟨q1,q2,q3,q4⟩:=kG hc ps x this.1 (by omega) l' e hd;refine⟨fun a ha=>?_,q2,q3,by simp[q4]⟩;rcases OD.1 ha with rfl|ha
     ·exact⟨⟨h0,h1⟩,by dsimp only;omega,by dsimp only;omega⟩
     ·exact q1 a ha
    ·cases h
   ·cases h
structure UpI(ns ar:List Nod)(a:Int×Int)(root:Int)(X:Fo)(ks:List Int)(i:Nat):Prop where
 wa:WA ar (ks++if (i:Int)≤a.2 then [root] else [])
 len:ks.length=i
 root:(i:Int)≤a.2→Den ar root X
 den:∀(j:Nat) (h1:j<ks.length) (h2:j<(ah ns a.1).length),Den ar ks[j] (if (j:Int)=a.2 then X else aF ns ns.length [(ah ns a.1)[j]])
theorem tj{ar ns:List Nod}{f g:Nat}(hf:0<f)(hg:0<g)(X:Fo):∀{l m:List Int} (k:Nat),l.length=m.length→(∀(j:Nat) (h1:j<l.length) (h2:j<m.length),aF ar f [l[j]]=if j=k then X else aF ns g [m[j]])→aF ar f l=Fo.setAt k X (aF ns g m)
 | [],[],k,_,_=>by rw[aA,aA];cases k<;>rfl
 | a :: l,b :: m,k,e,h=>by
  obtain⟨j,hj⟩:=ew (ns:=ns) (f:=g) b hg;rw[bk a l hf,bk b m hg,hj];have h0:aF ar f [a]=if 0=k then X else aF ns g [b]:=h 0 (QU _) (QU _)
  rw[h0]
  cases k with
  | zero=>
   rw[if_pos rfl,qZ hf hg (l:=l) (m:=m) (by simpa using e) fun j h1 h2=>(h (j+1) (QB h1) (QB h2)).trans (if_neg (by omega))];rfl
  | succ k=>
   rw[if_neg (by omega),hj,tj (ns:=ns) hf hg X (l:=l) (m:=m) k (by simpa using e) fun j h1 h2=>(h (j+1) (QB h1) (QB h2)).trans (by by_cases e:j=k<;>simp[e])];rfl
 | [],_ :: _,_,e,_=>by simp at e
 | _ :: _,[],_,e,_=>by simp at e
theorem Jh{ns ar:List Nod}{a:Int×Int}{root:Int}{X:Fo}(hw:WA ar [root])(hd:Den ar root X)(ha:0≤a.2):UpI ns ar a root X [] 0:=⟨by simpa [ha] using hw,rfl,fun _=>hd,fun j h1=>by simp at h1⟩
theorem K8{ns ar:List Nod}{a:Int×Int}{root:Int}{X:Fo}{ks:List Int}{i:Nat}(h:UpI ns ar a root X ks i)(hi:(i:Int)=a.2):UpI ns ar a root X (ks++[root]) (i+1):=by
 have hw:=h.wa;rw[if_pos (by omega)] at hw;refine⟨by rw[if_neg (by omega),Oj];exact hw,by simp[h.len],fun q=>by omega,fun j h1 h2=>?_⟩
 by_cases e:j<ks.length
 ·rw[PT e];exact h.den j e h2
 ·have:j=i:=by simp[h.len] at h1 e;omega
  subst this;rw[Qo (by omega),if_pos hi];simpa using h.root (by omega)
theorem K6{t:Tre}(hR:ax t){ar:List Nod}{a:Int×Int}{root:Int}{X:Fo}{ks:List Int}{i:Nat}(h:UpI t.nodes ar a root X ks i)(hi:(i:Int)≠a.2)(hl:i<(ah t.nodes a.1).length){row:List Int}(hr:Row t.nodes (ah t.nodes a.1)[i] row) :
  UpI t.nodes (gA ar t.nodes row row.length) a root X (ks++[((gA ar t.nodes row row.length).length:Int) - 1]) (i+1):=by
 obtain⟨hg,hgd⟩:=yG h.wa hR hr;have hkk:∀{p:Int} {F:Fo},Den ar p F→Den (gA ar t.nodes row row.length) p F:=fun hd=>Den.app h.wa.ok.kok.ah hd
 refine⟨hg.perm ?_,by simp[h.len],fun q=>hkk (h.root (by omega)),fun j h1 h2=>?_⟩
 ·rw[show(if ((i+1:Nat):Int)≤a.2 then [root] else [])=if (i:Int)≤a.2 then [root] else [] by
   by_cases e:(i:Int)≤a.2
   ·rw[if_pos e,if_pos (by omega)]
   ·rw[if_neg e,if_neg (by omega)]]
  rw[List.append_assoc,List.append_assoc];exact List.Perm.append_left _ List.perm_append_comm
 ·by_cases e:j<ks.length
  ·rw[PT e];exact hkk (h.den j e h2)
  ·have:j=i:=by simp[h.len] at h1 e;omega
   subst this;rw[Qo (by omega),if_neg hi];simpa using hgd
theorem Jo{t:Tre}(hR:ax t){ar:List Nod}{a:Int×Int}{root:Int}{X:Fo}{ks:List Int}(ha:(0≤a.1∧a.1<t.nodes.length)∧0≤a.2∧a.2<(ah t.nodes a.1).length)(h:UpI t.nodes ar a root X ks (ah t.nodes a.1).length)(n:Nod)(hn:n=t.nodes.getD a.1.toNat .zero) :
  WA (ar++[{ n with kids:=ks }]) [(ar.length:Int)]∧Den (ar++[{ n with kids:=ks }]) (ar.length:Int) (upS t.nodes a X):=by
 have hw:=h.wa;rw[if_neg (by omega),Oj] at hw;have hch:ah t.nodes a.1=n.kids:=by
  rw[hn];obtain⟨q,hq⟩:∃q:Nat,a.1=q:=⟨a.1.toNat,by omega⟩
  have hql:q<t.nodes.length:=by omega
  rw[hq,←aM (Oe hql)];simp[List.getD_eq_getElem?_getD,hql]
 have hfit:fits { n with kids:=ks } (ks.length:Int)=true:=by
  rw[mP,h.len,hch];refine hR.fits a.1.toNat n ?_;rw[hn,List.getD_eq_getElem?_getD,Oe (by omega)];rfl
 have hden:∀(j:Nat) (h1:j<ks.length),Den ar ks[j] (if (j:Int)=a.2 then X else aF t.nodes t.nodes.length [(ah t.nodes a.1)[j]'(by rw[←h.len];exact h1)]):=fun j h1=>h.den j h1 (by rw[←h.len];exact h1)
 refine⟨by simpa using hw.snoc (n:={ n with kids:=ks }) (rest:=[]) hfit (by simp),?_⟩;have hd:=Den.snoc (n:={ n with kids:=ks }) hw.ok.kok.ah (fun k hk=>hw.rng k hk);have e1:upS t.nodes a X=.cons { ({ n with kids:=ks }:Nod) with kids:=[] } (aF ar ar.length ks) .nil:=by
  have h0:0<ks.length:=by rw[h.len];omega
  rw[upS,tj (ar:=ar) (ns:=t.nodes) (f:=ar.length) (g:=t.nodes.length) (by have:=(hden 0 h0).lt;have:=(hden 0 h0).pos;omega) (by omega) X (l:=ks) (m:=ah t.nodes a.1) a.2.toNat h.len fun j h1 h2=>?_]
  ·rw[dat,←hn]
  ·rw[(h.den j h1 h2).fo]
   by_cases e:(j:Int)=a.2
   ·rw[if_pos e,if_pos (by omega)]
   ·rw[if_neg e,if_neg (by omega)]
 rw[e1];exact hd
theorem D9{ar:List Nod}{root:Int}{F:Fo}(hw:WA ar [root])(hd:Den ar root F):dU ⟨ar,root⟩=(aR F.norm,true):=by
 rw[dH hw.right.right,foT,hd.fo]
end Go.ab
end
section
namespace Go.Km
open Go Go.Vc Go.Proofs Go.ab Go.Proofs.YthebhpcjcihjgaaGreatDoor
set_option maxRecDepth 100000
set_option maxHeartbeats 0
abbrev yc(a:Int×Int):List F:=[inF a.1,inF a.2]
instance:mb yc 2:=⟨fun _=>rfl⟩
def dnR:Option (List (Int×Int)×Int)→List (Int×Int)
 | some (l,_)=>l
 | none=>[]
def dnK:Option (List (Int×Int)×Int)→Int
 | some (_,e)=>e
 | none=>0
instance(t:Tre)(p:List Int):C 113 [aw t,isF p] (.tp [.sl ((dnR (cM t.nodes t.root p)).map yc),inF (dnK (cM t.nodes t.root p)),boF (cM t.nodes t.root p).isSome]) false (t.wf∧ax t∧p.length≤1000000):=⟨fun ⟨hw,hR,hp⟩=>by
 have hlen:=hw.len;simp only[b9] at hlen;have hc:=hR.kok.ah;refine kf rfl rfl ?_;repeat' first|exact k9|refine k2 ?_|apply kA|apply kI;intro hc|refine k8 ?_|apply kL;intro hl
 apply Stp.fW 7 167 2 rfl rfl;apply kCt [2,7,8,14,15,16] [];conv=>whnf
 obtain⟨r,hr⟩:∃r:Nat,t.root=r:=⟨t.root.toNat,by have:=hR.root;omega⟩
 have hrl:=hR.root.2;rw[hr] at hrl ⊢;obtain⟨D0,hD0⟩:∃o,o=cM t.nodes (r:Int) p:=⟨_,rfl⟩
 rw[←hD0];refine Lp.ind (fun x:Nat×List (Int×Int)×Nat=>p.length - x.1) (fun x=>x.1≤p.length∧x.2.1.length=x.1∧x.2.2<t.nodes.length∧D0=(match cM t.nodes (x.2.2:Int) (p.drop x.1) with|some (l,e)=>some (x.2.1++l,e)|none=>none)) (fun x=>[(16,InD x.1),(8,InD x.2.2)]) (fun x=>[(1,.ro 0 167 2 (x.2.1.map yc))]) (fun _=>_) (0,[],r) ⟨Oq _,rfl,by dsimp only;omega,by dsimp only;rw[Pb,←hD0];cases D0<;>rfl⟩ rfl rfl rfl ?_
 rintro G ⟨i,l,q⟩ ih ⟨hi,hl0,hq,hT⟩
 dsimp only at hi hl0 hq hT ih ⊢
 by_cases hx:i<p.length
 ·rw[Oz hx,cM] at hT;have hch:ah t.nodes (q:Int)=t.nodes[q].kids:=(aM (Oe hq)).symm;rw[hch] at hT;have hko:=hR.kok q t.nodes[q] (Oe hq)
  by_cases h0:p[i]<0
  ·rw[if_pos h0] at hT;subst hT
   repeat' first|exact k9|refine k2 ?_|apply kA|apply kI;intro hc|refine k8 ?_|apply kL;intro hl
   exact aa.i rfl
  ·rw[if_neg h0] at hT
   by_cases h1:p[i].toNat<t.nodes[q].kids.length
   ·rw[Oe h1] at hT;obtain⟨y,hy⟩:∃y:Nat,t.nodes[q].kids[p[i].toNat]=y:=⟨t.nodes[q].kids[p[i].toNat].toNat,by have:=hko _ (Of h1);omega⟩
    have hyl:=hko _ (Of h1);rw[hy] at hyl;have hyi:∀h:p[i].toNat<t.nodes[q].kids.length,t.nodes[q].kids[p[i].toNat]'h=(y:Int):=fun _=>hy
    simp only[hy] at hT
    repeat' first|exact k9|refine k2 ?_|apply kA|apply kI;intro hc|apply kL;intro hl|((simp only[hyi])<;>conv=>whnf)|refine k8 ?_|fail
    apply kCt [2,7,8,14,15,16] [];conv=>whnf
    refine ih (i+1,l++[((q:Int),p[i])],y) _ _ _ (by dsimp only;omega) ⟨by dsimp only;omega,by simp[hl0],by dsimp only;omega,?_⟩ rfl rfl ?_
    ·dsimp only;rw[hT]
     cases cM t.nodes (y:Int) (p.drop (i+1)) with
     | none=>rfl
     | some x=>obtain⟨a,b⟩:=x;simp
    ·dsimp only;rw[List.map_append];rfl
   ·rw[OG (by omega)] at hT;simp only at hT;subst hT
    repeat' first|exact k9|refine k2 ?_|apply kA|apply kI;intro hc|refine k8 ?_|apply kL;intro hl
    exact aa.i rfl
 ·obtain rfl:i=p.length:=by omega
  rw[Qi,cM] at hT;simp only[Oj] at hT;subst hT
  repeat' first|exact k9|refine k2 ?_|apply kA|apply kI;intro hc|refine k8 ?_|apply kL;intro hl
  exact aa.i rfl⟩
instance(l:List (Int×Int)):C 139 [.sl (l.map yc)] (.tp [.ag (yc (l.getLastD (0,0))),.sl (l.dropLast.map yc)]) false (0<l.length∧l.length≤1000000):=⟨fun ⟨h0,hl⟩=>by
 have hlast:∀h:(((l.length:Nat):Int) - 1).toNat<l.length,l[(((l.length:Nat):Int) - 1).toNat]'h=l.getLastD (0,0):=fun h=>by
  obtain⟨m,a,rfl⟩:=(bx l).resolve_left (by intro e;subst e;simp at h0);simp
 have htk:List.take (((l.length:Nat):Int) - 1).toNat (l.map yc)=l.dropLast.map yc:=by
  rw[show(((l.length:Nat):Int) - 1).toNat=l.length - 1 by omega,List.dropLast_eq_take,List.map_take]
 refine kf rfl rfl ?_;repeat' first|exact k9|refine k2 ?_|apply kA|apply kI;intro hc|refine k8 ?_|apply kL;intro hl
 refine aa.i ?_;simp only[Ok,hlast,Pb,htk]⟩
instance(t:Tre)(p:List Int):C 80 [aw t,isF p] (.tp [aw (gi t p).1,boF (gi t p).2]) false (t.wf∧p.length≤1000000):=⟨fun ⟨hw,hp⟩=>by
 cases hr:ao t with
 | false=>
  have e:gi t p=(.zero,false):=by rw[gi,if_neg (by rw[hr];decide)]
  rw[e];refine kf rfl rfl ?_;repeat' first|exact k9|refine k2 ?_|apply kA|apply kI;intro hc|refine k8 ?_|apply kL;intro hl
  exact aa.i rfl
 | true=>
  have hR:=ak hr;have hpre:t.wf∧ax t∧p.length≤1000000:=⟨hw,hR,hp⟩
  have hd:=kG hR.kok.ah p t.root hR.root.1 hR.root.2;refine kf rfl rfl ?_;repeat' first|exact k9|refine k2 ?_|apply kA|apply kI;intro hc|refine k8 ?_|apply kL;intro hl
  ·obtain⟨⟨l,k⟩,ho⟩:=PV.1 hc;obtain⟨_,h1,h2,_⟩:=hd l k ho;have e:gi t p=(aC t k,true):=by rw[gi,if_pos hr,ho]
   have e2:iT t k=(aC t k,true):=by rw[iT,if_pos ⟨hr,h1,h2⟩]
   have e3:dnK (cM t.nodes t.root p)=k:=by rw[ho];rfl
   rw[e,e3,e2];exact aa.i rfl
  ·have ho:cM t.nodes t.root p=none:=by
    cases h:cM t.nodes t.root p with
    | none=>rfl
    | some x=>rw[h] at hc;cases hc
   have e:gi t p=(.zero,false):=by rw[gi,if_pos hr,ho]
   rw[e];exact aa.i rfl⟩
end Go.Km
end
section
namespace Go.ab
open Go Go.Sl
theorem xZ{t:Tre}(h:ax t){x:Int}(h0:0≤x)(hx:x<t.nodes.length):szN t.nodes x≤t.nodes.length:=by
 rw[szN,kH];exact fP h h0 hx
def iE(ar:List Nod):Prop:=∀n∈ar,({ n with kids:=[] }:Nod).wf∧n.kids.length≤eX
theorem iE.app{a b:List Nod}(h:iE a)(k:iE b):iE (a++b):=fun n hn=>by
 rcases Oy.1 hn with hn|hn
 ·exact h n hn
 ·exact k n hn
theorem iE.gA{ar ns:List Nod}{row:List Int}{m:Nat}(h:iE ar)(hn:∀n∈ns,n.wf):iE (gA ar ns row m):=by
 refine iE.app h fun n hm=>?_;obtain⟨j,_,rfl⟩:=Pq.1 hm;obtain⟨q,hq⟩:=exEq (row.getD (row.length - 1 - j) 0);have hw:(ns.getD q.toNat .zero).wf:=by
  rw[List.getD_eq_getElem?_getD]
  cases e:ns[q.toNat]? with
  | none=>exact Nod.aV
  | some n=>exact hn n (OI e)
 refine⟨?_,?_⟩
 ·show({ ns.getD (row.getD (row.length - 1 - j) 0).toNat .zero with kids:=[] }:Nod).wf
  rw[←hq];exact hw.wf0
 ·show(eD ns row ar.length (row.length - 1 - j)).length≤eX
  rw[eD,Ok,Pw,←hq,ah]
  split
  ·exact Oq _
  ·unfold oe
   split
   ·rename_i n e;exact(hn n (OI e)).kids.1
   ·exact Oq _
theorem iE.wf{ar:List Nod}(h:iE ar)(hk:NOk 0 ar)(hl:ar.length≤b9):∀n∈ar,n.wf:=fun n hn=>by
 obtain⟨h1,h2⟩:=h n hn;obtain⟨i,hi⟩:=PS.1 hn;have h3:=(hk i n hi).2;have h4:=(Ox.1 hi).1;unfold b9 at hl;exact⟨h1.kind,h1.set,h1.text,h1.min,h1.max,h2,fun x hx=>by have:=h3 x hx;unfold I64;omega⟩
end Go.ab
namespace Go.Km
open Go Go.Vc Go.Proofs Go.ab Go.Proofs.YthebhpcjcihjgaaGreatDoor
set_option maxRecDepth 100000
set_option maxHeartbeats 0
theorem Mg(t:Tre):C 115 [aw t] (.tp [aw (dU t).1,boF (dU t).2]) false t.wf:=inferInstance
instance(t x:Tre)(p:List Int):C 84 [aw t,isF p,aw x] (.tp [aw (cx t p x).1,boF (cx t p x).2]) false (t.wf∧x.wf∧t.nodes.length≤100000∧x.nodes.length≤100000∧p.length≤1000000):=⟨fun ⟨hw,hwx,htl,hxl,hp⟩=>by
 cases hr:ao t with
 | false=>
  have e:cx t p x=(.zero,false):=by rw[cx,hr];rfl
  rw[e];refine kf rfl rfl ?_;repeat' first|exact k9|refine k2 ?_|apply kA|apply kI;intro hc|(apply Sn.go hX;conv=>whnf)|refine k8 ?_|apply kL;intro hl
  exact aa.i rfl
 | true=>
  cases hrx:ao x with
  | false=>
   have e:cx t p x=(.zero,false):=by rw[cx,hr,hrx];rfl
   rw[e];refine kf rfl rfl ?_;repeat' first|exact k9|refine k2 ?_|apply kA|apply kI;intro hc|(apply Sn.go hX;conv=>whnf)|refine k8 ?_|apply kL;intro hl
   exact aa.i rfl
  | true=>
   have hR:=ak hr;have hRx:=ak hrx;have hpre:t.wf∧ax t∧p.length≤1000000:=⟨hw,hR,hp⟩
   cases hd:cM t.nodes t.root p with
   | none=>
    have e:cx t p x=(.zero,false):=by rw[cx,hr,hrx,hd];rfl
    have h1:(cM t.nodes t.root p).isSome=false:=by rw[hd];rfl
    rw[e];refine kf rfl rfl ?_;repeat' first|exact k9|refine k2 ?_|apply kA|apply kI;intro hc|(apply Sn.go hX;conv=>whnf)|refine k8 ?_|apply kL;intro hl
    exact aa.i rfl
   | some y=>
    obtain⟨row,k⟩:=y;have e:cx t p x=(aR (upF t.nodes row (foT x)).norm,true):=by rw[cx,hr,hrx,hd];rfl
    have h1:(cM t.nodes t.root p).isSome=true:=by rw[hd];rfl
    have h2:dnR (cM t.nodes t.root p)=row:=by rw[hd];rfl
    obtain⟨hab,_,_,hrl⟩:=kG hR.kok.ah p t.root hR.root.1 hR.root.2 row k hd;rw[e];refine kf rfl rfl ?_;repeat' first|exact k9|refine k2 ?_|apply kA|apply kI;intro hc|apply kL;intro hl|(apply Sn.go hX;conv=>whnf)|((simp only[h2])<;>conv=>whnf)|refine k8 ?_|fail
    have hrx1:=hRx.root;apply Stp.fW 0 45 9 rfl rfl;obtain⟨ns,hns⟩:=exEq (x.nodes);have hk_:KOk ns:=by rw[hns];exact(hRx).kok
    have hsz:szN ns x.root≤ns.length:=by rw[hns];exact xZ hRx (by omega) (by omega)
    have hnl:ns.length≤100000:=by rw[hns];exact hxl
    have hnw:∀n∈ns,n.wf:=by rw[hns];exact(hwx).nodes
    apply kCt [0,4,8,9] [3,6,8];conv=>whnf
    refine Lp.ind (fun z:Nat×List Int=>szN ns x.root - z.1) (fun z=>Bfs ns x.root z.1 z.2) (fun z=>[(9,InD z.1)]) (fun z=>[(2,.ro 0 3 1 (z.2.map ikF))]) (fun _=>_) (0,[x.root]) (Bfs.zero (by omega) (by rw[hns];omega)) rfl rfl rfl ?_
    rintro G1 ⟨i,rw_⟩ ih1 hB
    dsimp only at hB ih1 ⊢;have hBl:=hB.len hk_;have hBi:=hB.le
    by_cases hx1:i<rw_.length
    ·have hst:=hB.step hk_ hx1;have hsl:=hst.len hk_;have hm:=hB.mem _ (Of hx1);obtain⟨q,hq⟩:∃q:Nat,rw_[i]=q:=⟨rw_[i].toNat,by omega⟩
     rw[hq] at hm hst hsl;have hql:q<ns.length:=by omega
     have hqi:∀h:i<rw_.length,rw_[i]'h=(q:Int):=fun _=>hq
     have hch:ah ns (q:Int)=ns[q].kids:=(aM (Oe hql)).symm;rw[hch] at hst hsl;subst hns;simp only[Oh] at hsl
     repeat' first|exact k9|refine k2 ?_|apply kA|apply kI;intro hc|apply kL;intro hl|(apply Sn.go hX;conv=>whnf)|((simp only[hqi])<;>conv=>whnf)|refine k8 ?_|fail
     apply kCt [0,4,8,9] [3,6,8];conv=>whnf
     refine ih1 (i+1,rw_++x.nodes[q].kids) _ _ _ (by dsimp only;omega) hst rfl rfl ?_;dsimp only;rw[List.map_append];rfl
    obtain rfl:i=rw_.length:=by omega
    have hRow:Row ns x.root rw_:=⟨hB⟩
    have hpos:=hRow.pos;have hend:=hRow.end_;clear ih1
    repeat' first|exact k9|refine k2 ?_|apply kA|apply kI;intro hc|(apply Sn.go hX;conv=>whnf)|refine k8 ?_|apply kL;intro hl
    apply kCt [0,4,8,10,11] [3,6,8];conv=>whnf
    refine Lp.ind (fun m:Nat=>rw_.length - m) (fun m=>m≤rw_.length) (fun m=>[(11,InD (((rw_.length:Nat):Int) - 1 - (m:Int))),(10,InD (bE ns rw_ (rw_.length - m)))]) (fun m=>[(0,.ro 0 45 9 ((gA ([]:List Nod) ns rw_ m).map aT))]) (fun _=>_) 0 (Oq _) rfl (by rw[O9,hend];simp only[Ok,Qh,Rg];rfl) (by simp only[gA,List.range_zero,P0,Oj];rfl) ?_
    rintro G2 m ih2 hmr
    have hgl:=wZ ([]:List Nod) ns rw_ m
    by_cases hx2:m<rw_.length
    ·obtain⟨pp,hpp⟩:=exEq (rw_.length - 1 - m);have hppl:pp<rw_.length:=by omega
     have hpi:((rw_.length:Nat):Int) - 1 - (m:Int)=(pp:Int):=by omega
     have hpe:rw_.length - m=pp+1:=by omega
     have hsu:=sE ([]:List Nod) ns rw_ m;rw[←hpp] at hsu;have hE:=sj (ns:=ns) hppl;have hEm:=wX (ns:=ns) (p:=pp+1) (q:=rw_.length) (by omega) (Ov _);rw[hend] at hEm;have hmm:=hB.mem _ (Of hppl);obtain⟨q,hq⟩:∃q:Nat,rw_[pp]=q:=⟨rw_[pp].toNat,by omega⟩
     rw[hq] at hmm;have hqi:∀h:pp<rw_.length,rw_[pp]'h=(q:Int):=fun _=>hq
     have hql:q<ns.length:=by omega
     have hgd:rw_.getD pp 0=(q:Int):=(mL hppl).trans hq;have hch:ah ns (q:Int)=ns[q].kids:=(aM (Oe hql)).symm;rw[hgd,hch] at hE;rw[hE] at hEm;obtain⟨nn,hnn⟩:=exEq (ns[q]);rw[←hnn] at hE hEm hch;have hnq:ns.getD (rw_.getD pp 0).toNat .zero=nn:=by rw[hgd,Oo,hnn];simp[List.getD_eq_getElem?_getD,hql]
     obtain⟨gk,hgk⟩:=exEq (eD ns rw_ ([]:List Nod).length pp);have hgkl:gk.length=nn.kids.length:=by rw[hgk,eD,Ok,Pw,hgd,hch]
     have hgka:∀(j:Nat) (h:j<gk.length),gk[j]=((([]:List Nod).length+rw_.length:Nat):Int) - 1 - ((bE ns rw_ pp+j:Nat):Int):=fun j h=>by simp only[hgk,eD,PO,Q3]
     have hgn:gN ns rw_ ([]:List Nod).length pp={ nn with kids:=gk }:=by rw[gN,hnq,hgk]
     obtain⟨A,hA⟩:=exEq (gA ([]:List Nod) ns rw_ m);rw[←hA] at hgl hsu ⊢;obtain⟨Ep,hEp⟩:=exEq (bE ns rw_ pp);rw[hpi,hpe,hE];rw[←hEp] at hgka hE hEm ⊢;have hnr:ns.length=x.nodes.length:=by rw[hns]
     have hkq:=(hnw _ (Of hql)).kids.1;simp only[eX] at hkq;rw[←hnn] at hkq;have hnsq:∀h:((q:Nat):Int).toNat<x.nodes.length,x.nodes[((q:Nat):Int).toNat]'h=nn:=fun h=>by simp only[hnn,hns,Oo]
     have hARb:([]:List Nod).length≤1000000000000:=(by simp)
     rw[hgn] at hsu
     repeat' first|exact k9|refine k2 ?_|apply kA|apply kI;intro hc|apply kL;intro hl|(apply Sn.go hX;conv=>whnf)|((simp only[hqi])<;>conv=>whnf)|((simp only[hnsq])<;>conv=>whnf)|refine k8 ?_|fail
     simp only[Px,Ok];rw[show(((Ep+nn.kids.length:Nat):Int) - ((nn.kids.length:Nat):Int))=(Ep:Int) by omega];apply kCt [0,4,8,10,11,12,13,60,61] [3,6,8];conv=>whnf
     refine Lp.ind (fun j:Nat=>nn.kids.length - j) (fun j=>j≤nn.kids.length) (fun j=>[(61,InD j)]) (fun j=>[(4,.ro 0 3 1 ((gk.take j++List.replicate (nn.kids.length - j) 0).map ikF))]) (fun _=>_) 0 (Oq _) rfl rfl (by simp only[Pd,OH,O9,Qm];rfl) ?_
     rintro G3 j ih3 hj
     have hfl:(gk.take j++List.replicate (nn.kids.length - j) 0).length=nn.kids.length:=by rw[Oh,Ou,Px];omega
     by_cases hx3:j<nn.kids.length
     ·have hval:=hgka j (by omega);have hstep:((gk.take j++List.replicate (nn.kids.length - j) 0).map ikF).set j (ikF gk[j])=(gk.take (j+1)++List.replicate (nn.kids.length - (j+1)) 0).map ikF:=by
       rw[←List.map_set]
       congr 1
       rw[PF _ _ (by rw[Ou];omega),Ou,show j - min j gk.length=0 by omega,List.take_succ_eq_append_getElem (by omega),show nn.kids.length - j=(nn.kids.length - (j+1))+1 by omega,PQ,List.append_assoc];rfl
      obtain⟨X,hX⟩:=exEq (gk.take j++List.replicate (nn.kids.length - j) 0);rw[←hX] at hfl hstep ⊢;have hvv:(((A.map aT).length:Nat):Int)+(pp:Int) - ((Ep:Int)+(j:Int))=gk[j]:=by rw[Ok,hval];omega
      repeat' first|exact k9|refine k2 ?_|apply kA|apply kI;intro hc|(apply Sn.go hX;conv=>whnf)|refine k8 ?_|apply kL;intro hl
      rw[hvv];apply kCt [0,4,8,10,11,12,13,60,61] [3,6,8];conv=>whnf
      refine ih3 (j+1) _ _ _ (by omega) (by omega) rfl rfl ?_;rw[←hstep];rfl
     obtain rfl:j=nn.kids.length:=by omega
     rw[Pt,Qe,Oj,Om (by omega)];clear ih3
     repeat' first|exact k9|refine k2 ?_|apply kA|apply kI;intro hc|(apply Sn.go hX;conv=>whnf)|refine k8 ?_|apply kL;intro hl
     apply kCt [0,4,8,10,11] [3,6,8];conv=>whnf
     refine ih2 (m+1) _ _ _ (by omega) (by omega) rfl ?_ ?_
     ·rw[show((rw_.length:Nat):Int) - 1 - ((m+1:Nat):Int)=(pp:Int) - 1 by omega,show rw_.length - (m+1)=pp by omega,←hEp];rfl
     ·rw[hsu,List.map_append];rfl
    obtain rfl:m=rw_.length:=by omega
    clear ih2 hB;have hgl3:=hgl;simp only[Ol,OS] at hgl3;obtain⟨hg1,hg2'⟩:=yG WA.nil hRx (by rw[←hns];exact hRow:Row x.nodes x.root rw_);have hg5:iE (gA [] ns rw_ rw_.length):=by rw[hns];exact iE.gA (fun n h=>by cases h) hwx.nodes
    rw[←hns] at hg1;have hg2:Den (gA [] ns rw_ rw_.length) (((gA [] ns rw_ rw_.length).length:Int) - 1) (foT x):=by rw[foT,hns];exact hg2'
    clear hg2';have hg3:(((gA [] ns rw_ rw_.length).length - 1:Nat):Int)=(((gA [] ns rw_ rw_.length).length:Nat):Int) - 1:=by omega
    have hg4:(((List.map aT (gA [] ns rw_ rw_.length)).length:Nat):Int) - 1=(((gA [] ns rw_ rw_.length).length - 1:Nat):Int):=by rw[Ok];omega
    repeat' first|exact k9|refine k2 ?_|apply kA|apply kI;intro hc|(apply Sn.go hX;conv=>whnf)|refine k8 ?_|apply kL;intro hl
    rw[hg4];apply kCt [0,2,3,5] [6];conv=>whnf
    refine Lp.ind (fun z:Nat×List Nod×Nat=>z.1) (fun z=>z.1≤row.length∧WA z.2.1 [(z.2.2:Int)]∧Den z.2.1 (z.2.2:Int) (upF t.nodes (row.drop z.1) (foT x))∧z.2.1.length≤100000+(row.length - z.1) * 100001∧iE z.2.1) (fun z=>[(2,.fr (.sl ((row.take z.1).map yc))),(3,InD z.2.2)]) (fun z=>[(0,.ro 0 45 9 (z.2.1.map aT))]) (fun _=>_) (row.length,gA [] ns rw_ rw_.length,(gA [] ns rw_ rw_.length).length - 1) ⟨Ov _,by dsimp only;rw[hg3];exact hg1,by dsimp only;rw[hg3,Qi];exact hg2,by dsimp only;omega,hg5⟩ rfl (by dsimp only;rw[OU];rfl) rfl ?_;clear hg1 hg2 hg3 hg4 hg5 hgl3 hRow hend hpos hBl hBi
    rintro G4 ⟨lv,ar,rt⟩ ih4 ⟨hlv,hwa,hden,hal,hdat⟩
    dsimp only at hlv hwa hden hal hdat ih4 ⊢
    by_cases hx4:0<lv
    ·have hlr:(row.take lv).length=lv:=by rw[Ou];omega
     have hlp:0<(row.take lv).length∧(row.take lv).length≤1000000:=by omega
     obtain⟨a,ha⟩:=exEq (row[lv - 1]);have hdl:(row.take lv).dropLast=row.take (lv - 1):=by rw[List.dropLast_eq_take,hlr,List.take_take,O5 (by omega)]
     have hgl4:(row.take lv).getLastD (0,0)=a:=by
      have:row.take lv=row.take (lv - 1)++[a]:=by
       rw[ha,←List.take_succ_eq_append_getElem (by omega),show lv - 1+1=lv by omega]
      rw[this];simp
     have haok:=hab a (by rw[ha];exact Of _);obtain⟨a1,ha1⟩:∃a1:Nat,a.1=a1:=⟨a.1.toNat,by omega⟩
     obtain⟨a2,ha2⟩:∃a2:Nat,a.2=a2:=⟨a.2.toNat,by omega⟩
     have ha1l:a1<t.nodes.length:=by omega
     obtain⟨an,han⟩:=exEq (t.nodes[a1]);have hani:∀h:((a1:Nat):Int).toNat<t.nodes.length,t.nodes[((a1:Nat):Int).toNat]'h=an:=fun h=>by simp only[han,Oo]
     have hach:ah t.nodes a.1=an.kids:=by rw[ha1,han];exact(aM (Oe ha1l)).symm
     have hanw:=(hw.nodes an (by rw[han];exact Of _)).kids.1;simp only[eX] at hanw;obtain⟨P,hP⟩:=exEq (row.take lv);rw[←hP] at hlr hlp hdl hgl4 ⊢
     repeat' first|exact k9|refine k2 ?_|apply kA|apply kI;intro hc|apply kL;intro hl|(apply Sn.go hX;conv=>whnf)|((simp only[hgl4,hdl])<;>conv=>whnf)|((simp only[ha1])<;>conv=>whnf)|((simp only[hani])<;>conv=>whnf)|refine k8 ?_|fail
     simp only[Ok];apply kCt [0,2,3,5,10,11,12,34,35,36] [6];conv=>whnf
     have hsa:szN t.nodes a.1=(an.kids.map (szN t.nodes)).sum+1:=by rw[BF hR.kok.ah (by omega) (by omega),hach]
     have hsb:szN t.nodes a.1≤t.nodes.length:=xZ hR (by omega) (by omega);refine Lp.ind (fun z:Nat×List Nod×List Int=>an.kids.length - z.1) (fun z=>z.1≤an.kids.length∧UpI t.nodes z.2.1 a (rt:Int) (upF t.nodes (row.drop lv) (foT x)) z.2.2 z.1∧z.2.1.length+((an.kids.drop z.1).map (szN t.nodes)).sum≤ar.length+100000∧iE z.2.1) (fun z=>[(36,InD z.1)]) (fun z=>[(0,.ro 0 45 9 (z.2.1.map aT)),(4,.ro 0 3 1 ((z.2.2++List.replicate (an.kids.length - z.1) 0).map ikF))]) (fun _=>_) (0,ar,[]) ⟨Oq _,Jh hwa hden haok.2.1,by dsimp only;rw[Pb];omega,hdat⟩ rfl rfl (by simp only[OH,O9,Qm];rfl) ?_
     rintro G5 ⟨i,br,ks⟩ ih5 ⟨hi5,hU,hbl,hdb⟩
     dsimp only at hi5 hU hbl hdb ih5 ⊢;have hksl:=hU.len;have hfl5:(ks++List.replicate (an.kids.length - i) 0).length=an.kids.length:=by rw[Oh,Px];omega
     by_cases hx5:i<an.kids.length
     ·have hset5:∀v:Int,((ks++List.replicate (an.kids.length - i) 0).map ikF).set i (ikF v)=(ks++[v]++List.replicate (an.kids.length - (i+1)) 0).map ikF:=fun v=>by
       rw[←List.map_set]
       congr 1
       rw[PF _ _ (by omega),hksl,Pt,show an.kids.length - i=(an.kids.length - (i+1))+1 by omega,PQ,List.append_assoc];rfl
      have hkm:an.kids[i]∈an.kids:=Of hx5;have hko:=hR.kok.ah a.1 an.kids[i] (by rw[hach];exact hkm);obtain⟨q5,hq5⟩:∃q5:Nat,an.kids[i]=q5:=⟨an.kids[i].toNat,by omega⟩
      have hq5i:∀h:i<an.kids.length,an.kids[i]'h=(q5:Int):=fun _=>hq5
      have hach5:∀h:i<(ah t.nodes a.1).length,(ah t.nodes a.1)[i]'h=(q5:Int):=fun h=>by simp only[hach,hq5]
      rw[Oz hx5,OB,P4,hq5] at hbl;rw[hq5] at hko;obtain⟨KS,hKS⟩:=exEq (ks++List.replicate (an.kids.length - i) 0);rw[←hKS] at hfl5 hset5 ⊢
      by_cases hhit:(i:Int)=a.2
      ·repeat' first|exact k9|refine k2 ?_|apply kA|apply kI;intro hc|apply kL;intro hl|(apply Sn.go hX;conv=>whnf)|((simp only[hq5i])<;>conv=>whnf)|refine k8 ?_|fail
       apply kCt [0,2,3,5,10,11,12,34,35,36] [6];conv=>whnf
       refine ih5 (i+1,br,ks++[(rt:Int)]) _ _ _ (by dsimp only;omega) ⟨by dsimp only;omega,K8 hU hhit,by dsimp only;omega,hdb⟩ rfl rfl ?_;dsimp only;rw[←hset5];rfl
      ·repeat' first|exact k9|refine k2 ?_|apply kA|apply kI;intro hc|apply kL;intro hl|(apply Sn.go hX;conv=>whnf)|((simp only[hq5i])<;>conv=>whnf)|refine k8 ?_|fail
       obtain⟨ns,hns⟩:=exEq (t.nodes);have hk_:KOk ns:=by rw[hns];exact(hR).kok
       have hsz:szN ns (q5:Int)≤ns.length:=by rw[hns];exact xZ hR (by omega) (by omega)
       have hnl:ns.length≤100000:=by rw[hns];exact htl
       have hnw:∀n∈ns,n.wf:=by rw[hns];exact(hw).nodes
       apply kCt [0,4,8,9] [2,3,5,6,10,11,12,34,35,36,50,51];conv=>whnf
       refine Lp.ind (fun z:Nat×List Int=>szN ns (q5:Int) - z.1) (fun z=>Bfs ns (q5:Int) z.1 z.2) (fun z=>[(9,InD z.1)]) (fun z=>[(2,.ro 0 3 1 (z.2.map ikF))]) (fun _=>_) (0,[(q5:Int)]) (Bfs.zero (by omega) (by rw[hns];omega)) rfl rfl rfl ?_
       rintro G1 ⟨i,rw_⟩ ih1 hB
       dsimp only at hB ih1 ⊢;have hBl:=hB.len hk_;have hBi:=hB.le
       by_cases hx1:i<rw_.length
       ·have hst:=hB.step hk_ hx1;have hsl:=hst.len hk_;have hm:=hB.mem _ (Of hx1);obtain⟨q,hq⟩:∃q:Nat,rw_[i]=q:=⟨rw_[i].toNat,by omega⟩
        rw[hq] at hm hst hsl;have hql:q<ns.length:=by omega
        have hqi:∀h:i<rw_.length,rw_[i]'h=(q:Int):=fun _=>hq
        have hch:ah ns (q:Int)=ns[q].kids:=(aM (Oe hql)).symm;rw[hch] at hst hsl;subst hns;simp only[Oh] at hsl
        repeat' first|exact k9|refine k2 ?_|apply kA|apply kI;intro hc|apply kL;intro hl|(apply Sn.go hX;conv=>whnf)|((simp only[hqi])<;>conv=>whnf)|refine k8 ?_|fail
        apply kCt [0,4,8,9] [2,3,5,6,10,11,12,34,35,36,50,51];conv=>whnf
        refine ih1 (i+1,rw_++t.nodes[q].kids) _ _ _ (by dsimp only;omega) hst rfl rfl ?_;dsimp only;rw[List.map_append];rfl
       obtain rfl:i=rw_.length:=by omega
       have hRow:Row ns (q5:Int) rw_:=⟨hB⟩
       have hpos:=hRow.pos;have hend:=hRow.end_;clear ih1
       repeat' first|exact k9|refine k2 ?_|apply kA|apply kI;intro hc|(apply Sn.go hX;conv=>whnf)|refine k8 ?_|apply kL;intro hl
       apply kCt [0,4,8,10,11] [2,3,5,6,10,11,12,34,35,36,50,51];conv=>whnf
       refine Lp.ind (fun m:Nat=>rw_.length - m) (fun m=>m≤rw_.length) (fun m=>[(11,InD (((rw_.length:Nat):Int) - 1 - (m:Int))),(10,InD (bE ns rw_ (rw_.length - m)))]) (fun m=>[(0,.ro 0 45 9 ((gA br ns rw_ m).map aT))]) (fun _=>_) 0 (Oq _) rfl (by rw[O9,hend];simp only[Ok,Qh,Rg];rfl) (by simp only[gA,List.range_zero,P0,Oj];rfl) ?_
       rintro G2 m ih2 hmr
       have hgl:=wZ br ns rw_ m
       by_cases hx2:m<rw_.length
       ·obtain⟨pp,hpp⟩:=exEq (rw_.length - 1 - m);have hppl:pp<rw_.length:=by omega
        have hpi:((rw_.length:Nat):Int) - 1 - (m:Int)=(pp:Int):=by omega
        have hpe:rw_.length - m=pp+1:=by omega
        have hsu:=sE br ns rw_ m;rw[←hpp] at hsu;have hE:=sj (ns:=ns) hppl;have hEm:=wX (ns:=ns) (p:=pp+1) (q:=rw_.length) (by omega) (Ov _);rw[hend] at hEm;have hmm:=hB.mem _ (Of hppl);obtain⟨q,hq⟩:∃q:Nat,rw_[pp]=q:=⟨rw_[pp].toNat,by omega⟩
        rw[hq] at hmm;have hqi:∀h:pp<rw_.length,rw_[pp]'h=(q:Int):=fun _=>hq
        have hql:q<ns.length:=by omega
        have hgd:rw_.getD pp 0=(q:Int):=(mL hppl).trans hq;have hch:ah ns (q:Int)=ns[q].kids:=(aM (Oe hql)).symm;rw[hgd,hch] at hE;rw[hE] at hEm;obtain⟨nn,hnn⟩:=exEq (ns[q]);rw[←hnn] at hE hEm hch;have hnq:ns.getD (rw_.getD pp 0).toNat .zero=nn:=by rw[hgd,Oo,hnn];simp[List.getD_eq_getElem?_getD,hql]
        obtain⟨gk,hgk⟩:=exEq (eD ns rw_ br.length pp);have hgkl:gk.length=nn.kids.length:=by rw[hgk,eD,Ok,Pw,hgd,hch]
        have hgka:∀(j:Nat) (h:j<gk.length),gk[j]=((br.length+rw_.length:Nat):Int) - 1 - ((bE ns rw_ pp+j:Nat):Int):=fun j h=>by simp only[hgk,eD,PO,Q3]
        have hgn:gN ns rw_ br.length pp={ nn with kids:=gk }:=by rw[gN,hnq,hgk]
        obtain⟨A,hA⟩:=exEq (gA br ns rw_ m);rw[←hA] at hgl hsu ⊢;obtain⟨Ep,hEp⟩:=exEq (bE ns rw_ pp);rw[hpi,hpe,hE];rw[←hEp] at hgka hE hEm ⊢;have hnr:ns.length=t.nodes.length:=by rw[hns]
        have hkq:=(hnw _ (Of hql)).kids.1;simp only[eX] at hkq;rw[←hnn] at hkq;have hnsq:∀h:((q:Nat):Int).toNat<t.nodes.length,t.nodes[((q:Nat):Int).toNat]'h=nn:=fun h=>by simp only[hnn,hns,Oo]
        have hARb:br.length≤1000000000000:=(by omega)
        rw[hgn] at hsu
        repeat' first|exact k9|refine k2 ?_|apply kA|apply kI;intro hc|apply kL;intro hl|(apply Sn.go hX;conv=>whnf)|((simp only[hqi])<;>conv=>whnf)|((simp only[hnsq])<;>conv=>whnf)|refine k8 ?_|fail
        simp only[Px,Ok];rw[show(((Ep+nn.kids.length:Nat):Int) - ((nn.kids.length:Nat):Int))=(Ep:Int) by omega];apply kCt [0,4,8,10,11,12,13,60,61] [2,3,5,6,10,11,12,34,35,36,50,51];conv=>whnf
        refine Lp.ind (fun j:Nat=>nn.kids.length - j) (fun j=>j≤nn.kids.length) (fun j=>[(61,InD j)]) (fun j=>[(4,.ro 0 3 1 ((gk.take j++List.replicate (nn.kids.length - j) 0).map ikF))]) (fun _=>_) 0 (Oq _) rfl rfl (by simp only[Pd,OH,O9,Qm];rfl) ?_
        rintro G3 j ih3 hj
        have hfl:(gk.take j++List.replicate (nn.kids.length - j) 0).length=nn.kids.length:=by rw[Oh,Ou,Px];omega
        by_cases hx3:j<nn.kids.length
        ·have hval:=hgka j (by omega);have hstep:((gk.take j++List.replicate (nn.kids.length - j) 0).map ikF).set j (ikF gk[j])=(gk.take (j+1)++List.replicate (nn.kids.length - (j+1)) 0).map ikF:=by
          rw[←List.map_set]
          congr 1
          rw[PF _ _ (by rw[Ou];omega),Ou,show j - min j gk.length=0 by omega,List.take_succ_eq_append_getElem (by omega),show nn.kids.length - j=(nn.kids.length - (j+1))+1 by omega,PQ,List.append_assoc];rfl
         obtain⟨X,hX⟩:=exEq (gk.take j++List.replicate (nn.kids.length - j) 0);rw[←hX] at hfl hstep ⊢;have hvv:(((A.map aT).length:Nat):Int)+(pp:Int) - ((Ep:Int)+(j:Int))=gk[j]:=by rw[Ok,hval];omega
         repeat' first|exact k9|refine k2 ?_|apply kA|apply kI;intro hc|(apply Sn.go hX;conv=>whnf)|refine k8 ?_|apply kL;intro hl
         rw[hvv];apply kCt [0,4,8,10,11,12,13,60,61] [2,3,5,6,10,11,12,34,35,36,50,51];conv=>whnf
         refine ih3 (j+1) _ _ _ (by omega) (by omega) rfl rfl ?_;rw[←hstep];rfl
        obtain rfl:j=nn.kids.length:=by omega
        rw[Pt,Qe,Oj,Om (by omega)];clear ih3
        repeat' first|exact k9|refine k2 ?_|apply kA|apply kI;intro hc|(apply Sn.go hX;conv=>whnf)|refine k8 ?_|apply kL;intro hl
        apply kCt [0,4,8,10,11] [2,3,5,6,10,11,12,34,35,36,50,51];conv=>whnf
        refine ih2 (m+1) _ _ _ (by omega) (by omega) rfl ?_ ?_
        ·rw[show((rw_.length:Nat):Int) - 1 - ((m+1:Nat):Int)=(pp:Int) - 1 by omega,show rw_.length - (m+1)=pp by omega,←hEp];rfl
        ·rw[hsu,List.map_append];rfl
       obtain rfl:m=rw_.length:=by omega
       subst hns;have hrs:rw_.length=szN t.nodes (q5:Int):=by have:=hRow.b.sum;rw[Qi] at this;simpa using this
       have hg6:=K6 hR hU hhit (by rw[hach];exact hx5) (row:=rw_) (by rw[hach5];exact hRow);have hg7:(((List.map aT (gA br t.nodes rw_ rw_.length)).length:Nat):Int) - 1=(((gA br t.nodes rw_ rw_.length).length:Nat):Int) - 1:=by rw[Ok]
       clear ih2 hB
       repeat' first|exact k9|refine k2 ?_|apply kA|apply kI;intro hc|(apply Sn.go hX;conv=>whnf)|refine k8 ?_|apply kL;intro hl
       rw[hg7];apply kCt [0,2,3,5,10,11,12,34,35,36] [6];conv=>whnf
       refine ih5 (i+1,gA br t.nodes rw_ rw_.length,ks++[(((gA br t.nodes rw_ rw_.length).length:Nat):Int) - 1]) _ _ _ (by dsimp only;omega) ⟨by dsimp only;omega,hg6,by dsimp only;omega,iE.gA hdb hw.nodes⟩ rfl rfl ?_;dsimp only;rw[←hset5];rfl
     ·obtain rfl:i=an.kids.length:=by omega
      rw[Pt,Qe,Oj];rw[Qi] at hbl;simp only[P0,Rw,Qj] at hbl;have hU2:UpI t.nodes br a (rt:Int) (upF t.nodes (row.drop lv) (foT x)) ks (ah t.nodes a.1).length:=by rw[hach];exact hU
      obtain⟨hw6,hd6⟩:=Jo hR (by rw[hach] at haok ⊢;exact haok) hU2 an (by rw[ha1,Oo,han];simp[List.getD_eq_getElem?_getD,ha1l]);have hup:upS t.nodes a (upF t.nodes (row.drop lv) (foT x))=upF t.nodes (row.drop (lv - 1)) (foT x):=by
       rw[Oz (show lv - 1<row.length by omega),←ha,show lv - 1+1=lv by omega];rfl
      rw[hup] at hd6;clear ih5
      repeat' first|exact k9|refine k2 ?_|apply kA|apply kI;intro hc|(apply Sn.go hX;conv=>whnf)|refine k8 ?_|apply kL;intro hl
      simp only[Oh,Ok,Og,Ol];rw[show(((br.length+(0+1):Nat):Int) - 1)=(br.length:Int) by omega];apply kCt [0,2,3,5] [6];conv=>whnf
      refine ih4 (lv - 1,br++[{ an with kids:=ks }],br.length) _ _ _ (by dsimp only;omega) ⟨by dsimp only;omega,hw6,hd6,by simp only[Oh,Og,Ol];omega,iE.app hdb fun n hn=>by
       simp only[Pj] at hn;subst hn;refine⟨(hw.nodes an (by rw[han];exact Of _)).wf0,?_⟩;simp only[hksl,eX];omega⟩ rfl rfl ?_
      dsimp only;rw[List.map_append];rfl
    ·obtain rfl:lv=0:=by omega
     have hwf:(⟨ar,(rt:Int)⟩:Tre).wf:=⟨by simp only[b9];omega,hdat.wf hwa.ok (by simp only[b9];omega),by have:=hwa.rng (rt:Int) (by simp);unfold Go.Sl.I64;dsimp only;omega⟩
     have hmk:=D9 hwa hden;rw[Pb] at hmk
     repeat' first|exact k9|refine k2 ?_|apply kA|apply kI;intro hc|(apply Sn.go hX;conv=>whnf)|((refine jL.i (Mg ⟨ar,(rt:Int)⟩) hwf ?_)<;>conv=>whnf)|refine k8 ?_|apply kL;intro hl
     rw[hmk];exact aa.i rfl⟩
end Go.Km
end
section
namespace Go.Proofs.YthebhpcjcihjgaaGreatDoor
open Go Go.Sl Go.RowKit
theorem zg:Tryz.prog.underlying 25=some (.slice 3):=by kernel_rfl
set_option maxHeartbeats 4000000 in
set_option maxRecDepth 100000 in
theorem Bb(A:Option Addr)(c:Nat)(w:World) :
  Calls Tryz.prog 142 #[.slice A 0 c] w fun e w'=>(∃A' c',e=.returned (.slice A' 0 c'))∧Below w.heap.size w w':=by
 have heq:∀W,(binOp .eql 25 (.slice A 0 c) (.slice none 0 0)).run Tryz.prog W=.ok (.bool A.isNone) W:=by
  intro W;have h1:(Op.equal 25 (.slice A 0 c) (.slice none 0 0)).run Tryz.prog W=.ok A.isNone W:=by
   show(Op.equalIn (9999+1) _ _ _).run Tryz.prog W=_
   rw[Op.equalIn]
   cases A<;>simp[run_underlying zg]
  have h2:binOp .eql 25 (.slice A 0 c) (.slice none 0 0)=(do pure (.bool (←Op.equal 25 (.slice A 0 c) (.slice none 0 0)))):=rfl;rw[h2];simp[h1]
 cases A with
 | none=>
  go_enter Tryz.func142,Tryz.ntmps142
  go_wp2
  go_ret
  exact⟨⟨_,_,rfl⟩,Below.refl _ _⟩
 | some a=>
  have hb:∀W:World,(Instr.buildSlice 25 0 #[]).run Tryz.prog W=.ok (.slice (some ⟨W.heap.size,0,none⟩) 0 0) (W.alloc (.cells #[] 3)):=fun W=>by
   have ht:SlT Tryz.prog 25 3 _ _ _:=inferInstance;obtain⟨i,i1,i2,i3,i4⟩:=ht.info;simp[Instr.buildSlice,run_underlying zg,sizeOf,typeInfo,i1,i3,zeroValue,i2,newRow,mU,Instr.fill,show Array.range 0=#[] from rfl]
  go_enter Tryz.func142,Tryz.ntmps142
  go_wp2
  go_ret
  exact⟨⟨_,_,rfl⟩,(Below.refl _ _).alloc (Ov _) _⟩
end Go.Proofs.YthebhpcjcihjgaaGreatDoor
namespace Go.Km
open Go Go.Vc Go.Proofs Go.ab Go.Proofs.YthebhpcjcihjgaaGreatDoor
set_option maxRecDepth 100000
set_option maxHeartbeats 0
theorem yt:Pure Tryz.prog X1.Γ 142 [.sl []] (.sl []) false:=
 ⟨inferInstance,fun Z w vs hZ hG hr=>by
  unfold F.aq F.rep at hr;obtain⟨u,us,rfl,⟨A,c,vr,sz,rfl,_,har,_,hr2⟩,hus⟩:=hr;unfold F.aq at hus;subst hus;refine(Bb A c w).mono fun e w' ⟨⟨A',c',h1⟩,h2⟩=>⟨_,h1,h2,?_⟩
  unfold F.rep;exact⟨A',c',[],sz,rfl,Oq _,⟨rfl,by simp,fun h=>absurd h (by simp)⟩,by simp,by unfold F.aI;rfl⟩⟩
instance(l:List Int):C 142 [isF l] (isF l) false (l.length≤17592186044416):=⟨fun h=>by
 cases l with
 | nil=>exact yt
 | cons a l=>
  obtain⟨L,hL⟩:=exEq (a :: l);rw[←hL] at h ⊢;have h0:0<(L.map ikF).length:=by rw[hL];simp
  refine kf rfl rfl ?_;repeat' first|exact k9|refine k2 ?_|apply kA|apply kI;intro hc|(apply Sn.go hX;conv=>whnf)|refine k8 ?_|apply kL;intro hl
  exact aa.i (by simp)⟩
theorem uv{α:Type}(f:α→List F)(l:List α)(i:Nat)(h:i<l.length):(l.map f).set i (f l[i])=l.map f:=by
 rw[←List.map_set,List.set_getElem_self]
instance(t:Tre):C 119 [aw t] (aw t) false (t.wf∧0<t.nodes.length):=⟨fun ⟨ht,h0⟩=>by
 have hl:=ht.len;simp only[b9] at hl;have h0:0<(t.nodes.map aT).length:=by simpa using h0
 have hX:=pG [141] [];refine fK hX rfl rfl ?_;repeat' first|exact k9|refine k2 ?_|apply kA|apply kI;intro hc|(apply Sn.go hX;conv=>whnf)|refine k8 ?_|apply kL;intro hl
 rw[OH];apply kCt [1,2,10,11,12] [];conv=>whnf
 refine Lp.ind (fun z:Nat=>t.nodes.length - z) (fun z=>z≤t.nodes.length) (fun z=>[(12,InD z)]) (fun _=>[]) (fun _=>_) 0 (Oq _) rfl rfl rfl ?_
 rintro G i ih hi
 by_cases hx:i<t.nodes.length
 ·have hw:=(ht.nodes _ (Of hx)).kids.1;simp only[eX] at hw;apply Sn.go hX;repeat' first|exact k9|refine k2 ?_|apply kA|apply kI;intro hc|(apply Sn.go hX;conv=>whnf)|refine k8 ?_|apply kL;intro hl
  apply kCt [1,2,10,11,12] [];conv=>whnf
  refine ih (i+1) _ _ _ (by omega) (by omega) rfl rfl ?_;exact congrArg (fun z=>jX [(1,B.ro 0 45 9 z)] G.h) (uv aT t.nodes i hx)
 ·apply Sn.go hX;repeat' (first|exact k9|refine k2 ?_|apply kA|apply kI;intro hc|(apply Sn.go hX;conv=>whnf)|refine k8 ?_|apply kL;intro hl)⟩
abbrev Oc:Nat:=140
instance(g:List Dfn):C 118 [aN g] (aN g) false (g.length≤1000∧0<g.length∧∀d∈g,d.wf∧0<d.body.nodes.length):=⟨fun ⟨hn,h0,hw⟩=>by
 have h0:0<(g.map mI).length:=by simpa using h0
 have hX:=pG [140] [];refine fK hX rfl rfl ?_;repeat' first|exact k9|refine k2 ?_|apply kA|apply kI;intro hc|(apply Sn.go hX;conv=>whnf)|refine k8 ?_|apply kL;intro hl
 rw[OH];apply kCt [1,2,10,11,12] [];conv=>whnf
 refine Lp.ind (fun z:Nat=>g.length - z) (fun z=>z≤g.length) (fun z=>[(12,InD z)]) (fun _=>[]) (fun _=>_) 0 (Oq _) rfl rfl rfl ?_
 rintro G i ih hi
 by_cases hx:i<g.length
 ·obtain⟨hwi,h0i⟩:=hw _ (Of hx);have hwb:=hwi.body;have hp:g[i].body.wf∧0<g[i].body.nodes.length:=⟨hwb,h0i⟩
  apply Sn.go hX;repeat' first|exact k9|refine k2 ?_|apply kA|apply kI;intro hc|(apply Sn.go hX;conv=>whnf)|refine k8 ?_|apply kL;intro hl
  apply kCt [1,2,10,11,12] [];conv=>whnf
  refine ih (i+1) _ _ _ (by omega) (by omega) rfl rfl ?_;exact congrArg (fun z=>jX [(1,B.ro 0 40 3 z)] G.h) (uv mI g i hx)
 ·apply Sn.go hX;repeat' (first|exact k9|refine k2 ?_|apply kA|apply kI;intro hc|(apply Sn.go hX;conv=>whnf)|refine k8 ?_|apply kL;intro hl)⟩
def lI(g:List Dfn)(r:Int)(t:Tre):List Dfn×Bool:=if h:0≤r∧r<g.length then (g.set r.toNat { g[r.toNat]'(by omega) with body:=t },true) else ([],false)
instance(g:List Dfn)(r:Int)(t:Tre):C 85 [aN g,inF r,aw t] (.tp [aN (lI g r t).1,boF (lI g r t).2]) false (g.length≤1000∧0<g.length∧(∀d∈g,d.wf∧0<d.body.nodes.length)∧t.wf∧0<t.nodes.length):=⟨fun ⟨hn,h0,hw,ht,ht0⟩=>by
 have h0:0<(g.map mI).length:=by simpa using h0
 have hX:=pG [140,118] [];refine fK hX rfl rfl ?_;repeat' first|exact k9|refine k2 ?_|apply kA|apply kI;intro hc|(apply Sn.go hX;conv=>whnf)|refine k8 ?_|apply kL;intro hl
 ·exact aa.i (by rw[lI,dif_neg (by omega)];rfl)
 ·exact aa.i (by rw[lI,dif_neg (by omega)];rfl)
 ·rename_i hr0;rw[OH];apply kCt [1,2,10,11,12] [1,3,5,6,18];conv=>whnf
  refine Lp.ind (fun z:Nat=>g.length - z) (fun z=>z≤g.length) (fun z=>[(12,InD z)]) (fun _=>[]) (fun _=>_) 0 (Oq _) rfl rfl rfl ?_
  rintro G i ih hi
  by_cases hx:i<g.length
  ·obtain⟨hwi,h0i⟩:=hw _ (Of hx);have hwb:=hwi.body;have hp:g[i].body.wf∧0<g[i].body.nodes.length:=⟨hwb,h0i⟩
   apply Sn.go hX;repeat' first|exact k9|refine k2 ?_|apply kA|apply kI;intro hc|(apply Sn.go hX;conv=>whnf)|refine k8 ?_|apply kL;intro hl
   apply kCt [1,2,10,11,12] [1,3,5,6,18];conv=>whnf
   refine ih (i+1) _ _ _ (by omega) (by omega) rfl rfl ?_;exact congrArg (fun z=>jX [(1,B.ro 0 40 3 z)] G.h) (uv mI g i hx)
  ·have hp:t.wf∧0<t.nodes.length:=⟨ht,ht0⟩
   apply Sn.go hX;repeat' first|exact k9|refine k2 ?_|apply kA|apply kI;intro hc|(apply Sn.go hX;conv=>whnf)|refine k8 ?_|apply kL;intro hl
   refine aa.i ?_;rw[lI,dif_pos (by omega)];dsimp only;rw[aN,List.map_set];rfl⟩
end Go.Km
end
section
namespace Go.ab
open Go Go.Km
def aY(g:List Dfn)(r:Int)(p:List Int):Tre×Bool:=if h:0≤r∧r<g.length then gi (g[r.toNat]'(by omega)).body p else (.zero,false)
def aX(g:List Dfn)(r:Int)(p:List Int)(x:Tre):List Dfn×Bool:=if h:0≤r∧r<g.length then (if (cx (g[r.toNat]'(by omega)).body p x).2=true then lI g r (cx (g[r.toNat]'(by omega)).body p x).1 else ([],false)) else ([],false)
theorem Fo.s8:∀(i:Nat) (G F:Fo),(Fo.setAt i G F).size≤F.size+G.size
 | i,G,.nil=>by cases i<;>simp[Fo.setAt,Fo.size]
 | 0,G,.cons n k r=>by simp only[Fo.setAt,Fo.eo,Fo.size];omega
 | i+1,G,.cons n k r=>by
  have:=Fo.s8 i G r;simp only[Fo.setAt,Fo.size];omega
theorem Fo.wN:∀(i:Nat) {G F:Fo},G.dwf→F.dwf→(Fo.setAt i G F).dwf
 | i,G,.nil,h,k=>by cases i<;>exact k
 | 0,G,.cons n a r,h,k=>(Fo.iV _ _).2 ⟨h,k.2.2⟩
 | i+1,G,.cons n a r,h,k=>⟨k.1,k.2.1,Fo.wN i h k.2.2⟩
theorem HN{t:Tre}(hR:ax t){a:Int×Int}(h0:0≤a.1)(h1:a.1<t.nodes.length)(F:Fo):(upS t.nodes a F).size≤t.nodes.length+F.size:=by
 have h2:=xZ hR h0 h1;rw[szN,gl hR.kok.ah h0 h1,Fo.size] at h2;have h3:=Fo.s8 a.2.toNat F (aF t.nodes t.nodes.length (ah t.nodes a.1));simp only[Fo.size] at h2;simp only[upS,Fo.size];omega
theorem yw{t:Tre}(hR:ax t)(X:Fo):∀row:List (Int×Int),HI t.nodes row→(upF t.nodes row X).size≤row.length * t.nodes.length+X.size
 | [],_=>by simp[upF]
 | a :: row,h=>by
  have h1:=h a (by simp);have h2:=HN hR h1.1.1 h1.1.2 (upF t.nodes row X);have h3:=yw hR X row fun b hb=>h b (by simp[hb])
  show(upS t.nodes a (upF t.nodes row X)).size≤_
  rw[Og,Ps];omega
theorem K3{ns:List Nod}(hn:∀n∈ns,n.wf)(k:Int):(dat ns k).wf:=by
 rw[dat,List.getD_eq_getElem?_getD]
 cases e:ns[k.toNat]? with
 | none=>exact Nod.aV
 | some n=>exact(hn n (OI e)).wf0
theorem DP{ns:List Nod}(hn:∀n∈ns,n.wf){X:Fo}(hX:X.dwf):∀row:List (Int×Int),(upF ns row X).dwf
 | []=>hX
 | a :: row=>⟨K3 hn _,Fo.wN _ (DP hn hX row) (eS hn _ _),trivial⟩
theorem Iw{ns:List Nod}{X:Fo}(hX:X.len=1):∀row:List (Int×Int),(upF ns row X).len=1
 | []=>hX
 | a :: row=>rfl
theorem yA{t x:Tre}{p:List Int}(ht:t.wf)(hx:x.wf)(hl:t.nodes.length≤100000)(hl2:x.nodes.length≤100000)(hp:p.length≤1000000)(h:(cx t p x).2=true):(cx t p x).1.wf∧0<(cx t p x).1.nodes.length:=by
 unfold cx at h ⊢
 split at h
 ·rename_i hr;rw[Oi] at hr;have hR:=ak hr.1;have hRx:=ak hr.2
  split at h
  ·rename_i row k hd;obtain⟨hab,_,_,hrl⟩:=kG hR.kok.ah p t.root hR.root.1 hR.root.2 row k hd;rw[if_pos (by rw[hr.1,hr.2];rfl)];simp only[hd];have hs:=yw hR (foT x) row hab;have hm:row.length * t.nodes.length≤1000000 * 100000:=Nat.mul_le_mul (by omega) hl;rw[dF hRx] at hs;have hsn:=Fo.fc (upF t.nodes row (foT x));refine⟨lr (Fo.jy (DP ht.nodes (eS hx.nodes _ _) row)) (by unfold b9;omega),?_⟩;rw[j8];have h1:=Fo.oE (upF t.nodes row (foT x)).norm;rw[Fo.jt,Iw (ov hr.2).2] at h1;exact h1
  ·cases h
 ·cases h
end Go.ab
namespace Go.Km
open Go Go.Vc Go.Proofs Go.ab Go.Proofs.YthebhpcjcihjgaaGreatDoor
set_option maxRecDepth 100000
set_option maxHeartbeats 0
instance(g:List Dfn)(r:Int)(p:List Int):C 44 [aN g,.ag [inF r,isF p]] (.tp [aw (aY g r p).1,boF (aY g r p).2]) false (g.length≤1000∧(∀d∈g,d.wf)∧p.length≤1000000):=⟨fun ⟨hn,hw,hp⟩=>by
 by_cases hr:0≤r∧r<g.length
 ·obtain⟨q,rfl⟩:∃q:Nat,r=q:=⟨r.toNat,by omega⟩
  have hql:q<g.length:=by omega
  have hpre:g[q].body.wf∧p.length≤1000000:=⟨(hw _ (Of hql)).body,hp⟩
  have e:aY g (q:Int) p=gi g[q].body p:=by rw[aY,dif_pos hr];rfl
  rw[e];refine kf rfl rfl ?_;repeat' first|exact k9|refine k2 ?_|apply kA|apply kI;intro hc|(apply Sn.go hX;conv=>whnf)|refine k8 ?_|apply kL;intro hl
 ·have e:aY g r p=(.zero,false):=by rw[aY,dif_neg hr]
  rw[e];refine kf rfl rfl ?_;repeat' first|exact k9|refine k2 ?_|apply kA|apply kI;intro hc|(apply Sn.go hX;conv=>whnf)|refine k8 ?_|apply kL;intro hl
  all_goals exact aa.i rfl⟩
instance(g:List Dfn)(r:Int)(p:List Int)(x:Tre):C 49 [aN g,.ag [inF r,isF p],aw x] (.tp [aN (aX g r p x).1,boF (aX g r p x).2]) false (g.length≤1000∧(∀d∈g,d.wf∧0<d.body.nodes.length∧d.body.nodes.length≤100000)∧p.length≤1000000∧x.wf∧x.nodes.length≤100000):=⟨fun ⟨hn,hw,hp,hx,hxl⟩=>by
 by_cases hr:0≤r∧r<g.length
 ·obtain⟨q,rfl⟩:∃q:Nat,r=q:=⟨r.toNat,by omega⟩
  have hql:q<g.length:=by omega
  obtain⟨hwq,hq0,hql2⟩:=hw _ (Of hql);have hpre:g[q].body.wf∧x.wf∧g[q].body.nodes.length≤100000∧x.nodes.length≤100000∧p.length≤1000000:=⟨hwq.body,hx,hql2,hxl,hp⟩
  have e:aX g (q:Int) p x=if (cx g[q].body p x).2=true then lI g (q:Int) (cx g[q].body p x).1 else ([],false):=by rw[aX,dif_pos hr];rfl
  refine kf rfl rfl ?_;repeat' first|exact k9|refine k2 ?_|apply kA|apply kI;intro hc|(apply Sn.go hX;conv=>whnf)|refine k8 ?_|apply kL;intro hl
  ·obtain⟨h1,h2⟩:=yA hwq.body hx hql2 hxl hp hc;exact⟨hn,by omega,fun d hd=>⟨(hw d hd).1,(hw d hd).2.1⟩,h1,h2⟩
  ·rw[e,if_pos hc];exact aa.i rfl
  ·rw[e,if_neg (by rw[hc];decide)];exact aa.i rfl
 ·have e:aX g r p x=([],false):=by rw[aX,dif_neg hr]
  rw[e];refine kf rfl rfl ?_;repeat' first|exact k9|refine k2 ?_|apply kA|apply kI;intro hc|(apply Sn.go hX;conv=>whnf)|refine k8 ?_|apply kL;intro hl
  all_goals exact aa.i rfl⟩
end Go.Km
end
