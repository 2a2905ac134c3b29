/- The texts that the card needs, part 10. -/
import Derived.Test.YtpbichnnflabdaaGreatDoorPC8
set_option linter.all false
section
namespace Go.aa
open Go Go.Km
def Fo.cK(g:List Dfn)(l:List Fl):Fo→List Fl
 |.nil=>[]
 |.cons n k r=>dX n (k.cK g l) (dt g l n.text)::r.cK g l
theorem Fo.v7(g:List Dfn)(l:List Fl):∀F G:Fo,(F.app G).cK g l=F.cK g l++G.cK g l
 |.nil,G=>rfl
 |.cons n k r,G=>by simp only[Fo.app,Fo.cK,Fo.v7 g l r G,List.cons_append]
theorem DM(g:List Dfn)(l:List Fl)(ns:List Nod):∀m,aH g l ns=aH g l (ns.take m)++(aH g l ns).drop m:=by
 intro m;have h:∀(b:List Nod) (a:List Fl),∃c,b.foldl (iV g l) a=a++c:=by
  intro b
  induction b with
  |nil=>intro a;exact⟨[],by simp⟩
  |cons n b ih=>
   intro a;obtain⟨c,hc⟩:=ih (iV g l a n);exact⟨_,by rw[List.foldl_cons,hc,iV,List.append_assoc]⟩
 obtain⟨c,hc⟩:=h (ns.drop m) (aH g l (ns.take m));have e:aH g l ns=aH g l (ns.take m)++c:=by
  rw[←hc];conv=>lhs;rw[←List.take_append_drop m ns]
  rw[aH,List.foldl_append];rfl
 by_cases hm:m≤ns.length
 ·have hl:(aH g l (ns.take m)).length=m:=by rw[bG,List.length_take];omega
  have:(aH g l ns).drop m=c:=by rw[e,List.drop_left' hl]
  rw[this];exact e
 ·rw[List.take_of_length_le (by omega),List.drop_of_length_le (by rw[bG];omega),List.append_nil]
theorem sO(g:List Dfn)(l:List Fl)(ns:List Nod){m k:Nat}(hk:k<m)(hm:m≤ns.length):(aH g l ns).getD k .bot=(aH g l (ns.take m)).getD k .bot:=by
 have hl:(aH g l (ns.take m)).length=m:=by rw[bG,List.length_take];omega
 rw[DM g l ns m,List.getD_eq_getElem?_getD,List.getElem?_append_left (by omega),←List.getD_eq_getElem?_getD]
theorem Ij(g:List Dfn)(l:List Fl){ns:List Nod}{i:Nat}(hi:i<ns.length)(hk:∀k∈ns[i].kids,0≤k∧k<(i:Int)):(aH g l ns).getD i .bot=dX ns[i] (aS (aH g l ns) ns[i].kids) (dt g l ns[i].text):=by
 have hl:(aH g l (ns.take i)).length=i:=by rw[bG,List.length_take];omega
 rw[sO g l ns (m:=i+1) (by omega) (by omega),qT g l hi,m8,if_neg (by omega),if_pos (by omega)]
 congr 1
 refine List.map_congr_left fun k hkk=>?_;have:=hk k hkk;rw[sO g l ns (m:=i) (by omega) (by omega)]
theorem y7(n:Nod)(ks:List Int)(l:List Fl)(r:Fl):dX { n with kids:=ks } l r=dX n l r:=rfl
theorem Fo.nX(g:List Dfn)(l:List Fl){ns:List Nod}(hf:0<ns.length):∀ks:List Int,(aA ns ns.length ks).cK g l=ks.map fun k=>hd0 ((aA ns ns.length [k]).cK g l)
 |[]=>by rw[ay];rfl
 |k::ks=>by
  rw[aM k ks hf,Fo.v7,Fo.nX g l hf ks];obtain⟨j,hj⟩:=fJ (ns:=ns) (f:=ns.length) k hf;rw[hj];simp only[List.map_cons,hj];rfl
theorem po(g:List Dfn)(l:List Fl){ns:List Nod}(hk:KOk ns):∀i:Nat,i<ns.length→(aH g l ns).getD i .bot=hd0 ((aA ns ns.length [(i:Int)]).cK g l):=by
 intro i
 induction i using Nat.strongRecOn with
 |ind i ih=>
  intro hi;have hki:=hk i _ (List.getElem?_eq_getElem hi);rw[Ij g l hi hki,bT hk.ae (by omega) (by omega),Fo.cK,Fo.nX g l (by omega),←aF (List.getElem?_eq_getElem hi)];have hd:dat ns (i:Int)={ ns[i]with kids:=[] }:=by simp[dat,List.getD_eq_getElem?_getD,hi]
  rw[hd,y7];show _=dX ns[i] _ (dt g l ns[i].text)
  congr 1
  refine List.map_congr_left fun k hkk=>?_;have:=hki k hkk;obtain⟨q,rfl⟩:∃q:Nat,k=q:=⟨k.toNat,by omega⟩
  exact ih q (by omega) (by omega)
theorem ET(g:List Dfn)(l:List Fl){t:Tre}(hR:av t):dL g l t=hd0 ((foT t).cK g l):=by
 have hr:=hR.root;obtain⟨q,hq⟩:∃q:Nat,t.root=q:=⟨t.root.toNat,by omega⟩
 rw[dL,foT,hq,Int.toNat_natCast];exact po g l hR.kok q (by omega)
def Fo.eN(g:List Dfn)(l:List Fl)(s:Bool):Fo→List ByteArray
 |.nil=>[]
 |.cons n k r=>(if n.kind=3 then[n.text]else if n.kind=6∧n.max=0 then[]else k.eN g l (decide (n.kind=4)))++(if(s && !(dX n (k.cK g l) (dt g l n.text)).zero)=true then[]else r.eN g l s)
def Fo.loops(g:List Dfn)(l:List Fl):Fo→Bool
 |.nil=>false
 |.cons n k r=>(decide (n.kind=6)&&decide (n.max=-1)&&(hd0 (k.cK g l)).zero)||k.loops g l||r.loops g l
def gB(g:List Dfn)(i:Nat):List Nat:=match g[i]? with
 |some d=>((foT d.body).eN g (bk g) false).filterMap (bx g)
 |none=>[]
def fU(g:List Dfn)(i:Nat):Bool:=match g[i]? with
 |some d=>(foT d.body).loops g (bk g)
 |none=>false
def eA(l m:List Nat):List Nat:=m.foldl (fun l j=>if j∈l then l else l++[j]) l
def r7(adj:Nat→List Nat):Nat→Nat→List Nat→List Nat
 |0,_,l=>l
 |f+1,k,l=>match l[k]? with
  |some x=>r7 adj f (k+1) (eA l (adj x))
  |none=>l
def v9(g:List Dfn)(i:Nat):Bool:=decide (i∈r7 (gB g) (2*g.length+(gB g i).length) 0 (gB g i))
def du(p:Nat→Bool):Nat→Nat→Option Nat
 |0,_=>none
 |n+1,i=>if p i=true then some i else du p n (i+1)
def iG(g:List Dfn):Int×Int:=
 if cz g=0 then(match du (v9 g) g.length 0 with
  |some i=>((i:Int),42)
  |none=>(match du (fU g) g.length 0 with
   |some i=>((i:Int),43)
   |none=>(0,0)))
 else(0,cz g)
def bb(g:List Dfn):Int:=(iG g).2
inductive kC(r:Nat→Nat→Prop):Nat→Nat→Prop
 |one {a b:Nat}:r a b→kC r a b
 |more {a b c:Nat}:kC r a b→r b c→kC r a c
theorem kC.trans{r:Nat→Nat→Prop}{a b c:Nat}(h:kC r a b)(k:kC r b c):kC r a c:=by
 induction k with
 |one k=>exact .more h k
 |more _ k ih=>exact .more ih k
theorem fy:∀(m l:List Nat) (x:Nat),x∈eA l m↔x∈l∨x∈m
 |[],l,x=>by simp[eA]
 |j::m,l,x=>by
  rw[eA,List.foldl_cons,←eA,fy m]
  split
  ·rename_i h
   constructor
   ·rintro(h1|h1)
    ·exact .inl h1
    ·exact .inr (List.mem_cons_of_mem _ h1)
   ·rintro(h1|h1)
    ·exact .inl h1
    ·rcases List.mem_cons.1 h1 with rfl|h1
     ·exact .inl h
     ·exact .inr h1
  ·simp only[List.mem_append,List.mem_cons,List.not_mem_nil,or_assoc,false_or]
theorem nI:∀(m l:List Nat),∃c,eA l m=l++c
 |[],l=>⟨[],by simp[eA]⟩
 |j::m,l=>by
  rw[eA,List.foldl_cons,←eA]
  split
  ·exact nI m l
  ·obtain⟨c,hc⟩:=nI m (l++[j]);exact⟨[j]++c,by rw[hc,List.append_assoc]⟩
structure rI(adj:Nat→List Nat)(i n0 n:Nat)(k:Nat)(l:List Nat):Prop where
 le:k≤l.length
 sound:∀x∈l,kC (fun a b=>b∈adj a) i x
 first:∀x∈adj i,x∈l
 done:∀(j:Nat) (h:j<k) (hj:j<l.length),∀x∈adj l[j],x∈l
 nd:(l.drop n0).Nodup
 len:n0≤l.length
 rng:∀x∈l,x<n
theorem qf{n0:Nat}:∀(m l:List Nat),(l.drop n0).Nodup→n0≤l.length→((eA l m).drop n0).Nodup∧n0≤(eA l m).length
 |[],l,h,e=>⟨h,e⟩
 |j::m,l,h,e=>by
  rw[eA,List.foldl_cons,←eA]
  split
  ·exact qf m l h e
  ·rename_i hj;refine qf m (l++[j]) ?_ (by simp;omega);rw[List.drop_append_of_le_length e,List.nodup_append];exact⟨h,by simp,fun a ha b hb=>by simp at hb;subst hb;exact fun q=>hj (q▸List.mem_of_mem_drop ha)⟩
theorem rI.step{adj:Nat→List Nat}{i n0 n k:Nat}{l:List Nat}(h:rI adj i n0 n k l)(hk:k<l.length)(ha:∀a<n,∀x∈adj a,x<n):rI adj i n0 n (k+1) (eA l (adj l[k])):=by
 obtain⟨c,hc⟩:=nI (adj l[k]) l;obtain⟨q1,q2⟩:=qf (adj l[k]) l h.nd h.len;refine⟨by rw[hc];simp;omega,fun x hx=>?_,fun x hx=>(fy _ _ _).2 (.inl (h.first x hx)),fun j hj hjl x hx=>?_,q1,q2,fun x hx=>?_⟩
 ·rcases(fy _ _ _).1 hx with hx|hx
  ·exact h.sound x hx
  ·exact .more (h.sound _ (List.getElem_mem hk)) hx
 ·have hjl2:j<l.length:=by omega
  have e:(eA l (adj l[k]))[j]=l[j]:=by simp only[hc];rw[List.getElem_append_left hjl2]
  rw[e]at hx
  by_cases ej:j=k
  ·subst ej;exact(fy _ _ _).2 (.inr hx)
  ·exact(fy _ _ _).2 (.inl (h.done j (by omega) hjl2 x hx))
 ·rcases(fy _ _ _).1 hx with hx|hx
  ·exact h.rng x hx
  ·exact ha _ (h.rng _ (List.getElem_mem hk)) x hx
theorem rI.bound{adj:Nat→List Nat}{i n0 n k:Nat}{l:List Nat}(h:rI adj i n0 n k l):l.length≤n0+n:=by
 have h1:(l.drop n0).length≤(List.range n).length:=List.Nodup.length_le_of_subset h.nd (fun x hx=>List.mem_range.2 (h.rng x (List.mem_of_mem_drop hx)));simp at h1;have:=h.len;omega
theorem rI.end_{adj:Nat→List Nat}{i n0 n:Nat}{l:List Nat}(h:rI adj i n0 n l.length l)(x:Nat):x∈l↔kC (fun a b=>b∈adj a) i x:=by
 refine⟨h.sound x,fun hp=>?_⟩
 induction hp with
 |one h1=>exact h.first _ h1
 |more _ h2 ih=>
  obtain⟨j,hj,rfl⟩:=List.getElem_of_mem ih;exact h.done j hj hj _ h2
theorem rI.zero{adj:Nat→List Nat}{i n:Nat}(hi:i<n)(ha:∀a<n,∀x∈adj a,x<n):rI adj i (adj i).length n 0 (adj i):=⟨Nat.zero_le _,fun x hx=>.one hx,fun x hx=>hx,fun j h=>by omega,by simp,Nat.le_refl _,fun x hx=>ha i hi x hx⟩
theorem qP{adj:Nat→List Nat}{i n0 n:Nat}(ha:∀a<n,∀x∈adj a,x<n):∀(f k:Nat) (l:List Nat),rI adj i n0 n k l→n0+n≤f+k→∃l',r7 adj f k l=l'∧rI adj i n0 n l'.length l'
 |0,k,l,h,hf=>by
  have h1:=h.bound;have h2:=h.le;obtain rfl:k=l.length:=by omega
  exact⟨l,rfl,h⟩
 |f+1,k,l,h,hf=>by
  rw[r7]
  by_cases hk:k<l.length
  ·rw[List.getElem?_eq_getElem hk];exact qP ha f (k+1) _ (h.step hk ha) (by omega)
  ·have h2:=h.le;obtain rfl:k=l.length:=by omega
   rw[List.getElem?_eq_none (Nat.le_refl _)];exact⟨l,rfl,h⟩
theorem Cj(g:List Dfn)(a:Nat):∀x∈gB g a,x<g.length:=by
 intro x hx;unfold gB at hx
 split at hx
 ·obtain⟨s,_,hs⟩:=List.mem_filterMap.1 hx;exact(fv hs).1
 ·cases hx
theorem vS{g:List Dfn}{i:Nat}(hi:i<g.length):v9 g i=true↔kC (fun a b=>b∈gB g a) i i:=by
 have ha:∀a<g.length,∀x∈gB g a,x<g.length:=fun a _ x hx=>Cj g a x hx
 obtain⟨l',h1,h2⟩:=qP ha (2*g.length+(gB g i).length) 0 _ (rI.zero hi ha) (by omega);rw[v9,decide_eq_true_iff,h1];exact h2.end_ i
theorem fV{p:Nat→Bool}:∀{n i:Nat},du p n i=none↔∀j,i≤j→j<i+n→p j=false
 |0,i=>by simp[du];omega
 |n+1,i=>by
  rw[du]
  split
  ·rename_i h;refine⟨fun q=>(by cases q),fun q=>?_⟩;rw[q i (Nat.le_refl _) (by omega)]at h
   cases h
  ·rename_i h;rw[fV];refine⟨fun q j h1 h2=>?_,fun q j h1 h2=>q j (by omega) (by omega)⟩
   by_cases e:j=i
   ·subst e;simpa using h
   ·exact q j (by omega) (by omega)
theorem ly{p:Nat→Bool}:∀{n i k:Nat},du p n i=some k→i≤k∧k<i+n∧p k=true∧∀j,i≤j→j<k→p j=false
 |0,i,k,h=>by simp[du]at h
 |n+1,i,k,h=>by
  rw[du]at h
  split at h
  ·rename_i hp
   cases h;exact⟨Nat.le_refl _,by omega,hp,fun j h1 h2=>by omega⟩
  ·rename_i hp;obtain⟨h1,h2,h3,h4⟩:=ly h;refine⟨by omega,by omega,h3,fun j h5 h6=>?_⟩
   by_cases e:j=i
   ·subst e;simpa using hp
   ·exact h4 j (by omega) h6
end Go.aa
end
section
namespace Go.aa
open Go
def wdN(p:Nat→Bool):Nat→Nat
 |0=>0
 |n+1=>wdN p n|||(if p n=true then 2^n else 0)
def wdI(p:Nat→Bool):Int:=(wdN p 64:Int)
theorem dQ(p:Nat→Bool):∀n j:Nat,(wdN p n).testBit j=(decide (j<n)&&p j)
 |0,j=>by simp[wdN]
 |n+1,j=>by
  rw[wdN,Nat.testBit_or,dQ p n j]
  by_cases hp:p n=true
  ·rw[if_pos hp,Nat.testBit_two_pow]
   by_cases e:n=j
   ·subst e;simp[hp]
   ·simp only[e,decide_false,Bool.or_false]
    congr 1
    exact decide_eq_decide.2 (by omega)
  ·rw[if_neg hp,Nat.zero_testBit,Bool.or_false]
   by_cases e:n=j
   ·subst e;simp[hp]
   ·congr 1
    exact decide_eq_decide.2 (by omega)
theorem nW(p:Nat→Bool)(n:Nat):wdN p n<2^n:=by
 refine Nat.lt_pow_two_of_testBit _ fun i hi=>?_;rw[dQ];simp;omega
theorem sT{m:Nat}(h:m<18446744073709551616):IntKind.u64.wrap (m:Int)=(m:Int):=by
 exact Go.Vc.wrap_u64 (by omega)
theorem o9(p:Nat→Bool):BitVec.ofInt 64 (wdI p)=BitVec.ofNat 64 (wdN p 64):=by
 rw[wdI,BitVec.ofInt_natCast]
theorem km{p q:Nat→Bool}(h:∀j<64,p j=q j):wdI p=wdI q:=by
 unfold wdI
 congr 1
 refine Nat.eq_of_testBit_eq fun j=>?_;rw[dQ,dQ]
 by_cases e:j<64
 ·rw[h j e]
 ·simp[e]
theorem KP{p q:Nat→Bool}(h:wdI p=wdI q):∀j<64,p j=q j:=fun j hj=>by
 have e:wdN p 64=wdN q 64:=by unfold wdI at h;omega
 have:=congrArg (fun n=>Nat.testBit n j) e;simpa [dQ,hj]using this
theorem Ds(p q:Nat→Bool):IntKind.u64.wrap ((BitVec.ofInt IntKind.u64.bits (wdI p)|||BitVec.ofInt IntKind.u64.bits (wdI q)).toNat:Int)=wdI fun j=>p j||q j:=by
 show IntKind.u64.wrap ((BitVec.ofInt 64 (wdI p)|||BitVec.ofInt 64 (wdI q)).toNat:Int)=_
 rw[o9,o9,BitVec.toNat_or,BitVec.toNat_ofNat,BitVec.toNat_ofNat,Nat.mod_eq_of_lt (nW p 64),Nat.mod_eq_of_lt (nW q 64)];have e:wdN p 64|||wdN q 64=wdN (fun j=>p j||q j) 64:=by
  refine Nat.eq_of_testBit_eq fun j=>?_;rw[Nat.testBit_or,dQ,dQ,dQ]
  cases decide (j<64)<;>simp
 rw[e,sT (nW _ 64)];rfl
theorem K1(p q:Nat→Bool):IntKind.u64.wrap ((BitVec.ofInt IntKind.u64.bits (wdI p)&&&BitVec.ofInt IntKind.u64.bits (wdI q)).toNat:Int)=wdI fun j=>p j&&q j:=by
 show IntKind.u64.wrap ((BitVec.ofInt 64 (wdI p)&&&BitVec.ofInt 64 (wdI q)).toNat:Int)=_
 rw[o9,o9,BitVec.toNat_and,BitVec.toNat_ofNat,BitVec.toNat_ofNat,Nat.mod_eq_of_lt (nW p 64),Nat.mod_eq_of_lt (nW q 64)];have e:wdN p 64&&&wdN q 64=wdN (fun j=>p j&&q j) 64:=by
  refine Nat.eq_of_testBit_eq fun j=>?_;rw[Nat.testBit_and,dQ,dQ,dQ]
  cases decide (j<64)<;>simp
 rw[e,sT (nW _ 64)];rfl
theorem BP{k:Nat}(h:k<64):IntKind.u64.wrap (1*2^(min ((k:Nat):Int).toNat IntKind.u64.bits))=wdI fun j=>decide (j=k):=by
 have e:wdN (fun j=>decide (j=k)) 64=2^k:=by
  refine Nat.eq_of_testBit_eq fun j=>?_;rw[dQ,Nat.testBit_two_pow]
  by_cases q:j=k
  ·subst q;simp[h]
  ·have:¬k=j:=fun e=>q e.symm
   simp[q,this]
 rw[show min ((k:Nat):Int).toNat IntKind.u64.bits=k by rw[Int.toNat_natCast];exact Nat.min_eq_left (Nat.le_of_lt h),Int.one_mul,show((2:Int)^k)=((2^k:Nat):Int)by simp,wdI,e,sT];have:=Nat.pow_lt_pow_right (a:=2) (by decide) h;omega
theorem ma:wdI (fun _=>false)=0:=by decide +kernel
theorem FF(p:Nat→Bool){k:Nat}(h:k<64):IntKind.u64.wrap ((BitVec.ofInt IntKind.u64.bits ((wdI p).fdiv (2^(min ((k:Nat):Int).toNat IntKind.u64.bits)))&&&BitVec.ofInt IntKind.u64.bits 1).toNat:Int)=if p k=true then 1 else 0:=by
 rw[show min ((k:Nat):Int).toNat IntKind.u64.bits=k by rw[Int.toNat_natCast];exact Nat.min_eq_left (Nat.le_of_lt h)];have hd:(wdI p).fdiv (2^k)=((wdN p 64/2^k:Nat):Int):=by
  rw[wdI,show((2:Int)^k)=((2^k:Nat):Int)by simp];exact(Int.ofNat_fdiv _ _).symm
 rw[hd];show IntKind.u64.wrap ((BitVec.ofInt 64 ((wdN p 64/2^k:Nat):Int)&&&BitVec.ofInt 64 1).toNat:Int)=_
 have hl:wdN p 64/2^k<2^64:=Nat.lt_of_le_of_lt (Nat.div_le_self _ _) (nW p 64);rw[BitVec.ofInt_natCast,BitVec.toNat_and,BitVec.toNat_ofNat,Nat.mod_eq_of_lt hl,show(BitVec.ofInt 64 1).toNat=1 from rfl,Nat.and_one_is_mod];have hb:=dQ p 64 k;rw[Nat.testBit_eq_decide_div_mod_eq,decide_eq_true h,Bool.true_and]at hb
 by_cases hp:p k=true
 ·rw[hp,decide_eq_true_iff]at hb;rw[if_pos hp,hb];rfl
 ·rw[if_neg hp];have:¬wdN p 64/2^k % 2=1:=fun e=>hp (by rw[←hb,decide_eq_true e])
  have:wdN p 64/2^k % 2=0:=by omega
  rw[this];rfl
end Go.aa
end
section
namespace Go.aa
open Go Go.Km
def jZ(X:List Fl)(n:Nod):Bool:=decide (n.kind=6)&&decide (n.max=-1)&&(hd0 (aS X n.kids)).zero
def tF(X:List Fl)(ns:List Nod):Bool:=ns.any (jZ X)
theorem Fo.m4(g:List Dfn)(l:List Fl){ns:List Nod}(hk:KOk ns):∀(f:Nat) (ks:List Int),(∀k∈ks,0≤k∧k<(f:Int))→f≤ns.length→((aA ns f ks).loops g l=true↔∃x∈dfs (ae ns) f ks,jZ (aH g l ns) (ns.getD x.toNat .zero)=true)
 |0,ks,h,_=>by
  cases ks with
  |nil=>simp[aA,Fo.loops,dfs]
  |cons k ks=>have:=h k (by simp);omega
 |f+1,[],_,_=>by simp[ay,Fo.loops,dfs]
 |f+1,k::ks,h,hf=>by
  have hkk:=h k (by simp);have hc:=hk.ae;obtain⟨q,rfl⟩:∃q:Nat,k=q:=⟨k.toNat,by omega⟩
  have hql:q<ns.length:=by omega
  have hch:∀x∈ae ns (q:Int),0≤x∧x<(f:Int):=fun x hx=>by have:=hc _ x hx;omega
  have ih1:=Fo.m4 g l hk f (ae ns (q:Int)) hch (by omega);have ih2:=Fo.m4 g l hk (f+1) ks (fun x hx=>h x (by simp[hx])) hf;have hdc:=aQ (ch:=ae ns) hc (f:=f+1) (k:=(q:Int)) (l:=ks) hkk.1 hkk.2;have hfu:dfs (ae ns) (f+1) (ae ns (q:Int))=dfs (ae ns) f (ae ns (q:Int)):=oO hc _ _ _ (fun x hx=>by have:=hch x hx;omega) (fun x hx=>(hch x hx).2);have hnode:jZ (aH g l ns) (ns.getD ((q:Nat):Int).toNat .zero)=(decide ((dat ns (q:Int)).kind=6)&&decide ((dat ns (q:Int)).max=-1)&&(hd0 ((aA ns f (ae ns (q:Int))).cK g l)).zero):=by
   have e1:aA ns f (ae ns (q:Int))=aA ns ns.length (ae ns (q:Int)):=dU hc _ _ _ hch (fun x hx=>by have:=hch x hx;omega);have e2:ns.getD ((q:Nat):Int).toNat .zero=ns[q]:=by simp[List.getD_eq_getElem?_getD,hql]
   rw[e1,Fo.nX g l (by omega)];simp only[jZ,dat,e2];rw[←aF (List.getElem?_eq_getElem hql)]
   congr 3
   refine List.map_congr_left fun x hx=>?_;have:=hk q _ (List.getElem?_eq_getElem hql) x hx;obtain⟨p,rfl⟩:∃p:Nat,x=p:=⟨x.toNat,by omega⟩
   exact po g l hk p (by omega)
  rw[aK,Fo.loops,hdc,hfu,Bool.or_eq_true,Bool.or_eq_true,ih1,ih2,←hnode];simp only[List.mem_cons,List.mem_append]
  constructor
  ·rintro((h1|⟨x,h1,h2⟩)|⟨x,h1,h2⟩)
   ·exact⟨_,.inl rfl,h1⟩
   ·exact⟨x,.inr (.inl h1),h2⟩
   ·exact⟨x,.inr (.inr h1),h2⟩
  ·rintro⟨x,(rfl|h1|h1),h2⟩
   ·exact .inl (.inl h2)
   ·exact .inl (.inr ⟨x,h1,h2⟩)
   ·exact .inr ⟨x,h1,h2⟩
theorem GW(g:List Dfn)(l:List Fl){t:Tre}(hR:av t):tF (aH g l t.nodes) t.nodes=(foT t).loops g l:=by
 have h:=Fo.m4 g l hR.kok t.nodes.length [t.root] (by intro k hk;simp at hk;subst hk;exact hR.root) (Nat.le_refl _);rw[Bool.eq_iff_iff,foT,h,tF,List.any_eq_true]
 constructor
 ·rintro⟨n,hn,h1⟩
  obtain⟨i,hi,rfl⟩:=List.getElem_of_mem hn;refine⟨(i:Int),?_,?_⟩
  ·have:=lO hR (t.nodes.length) (i:Int) (by omega) (by omega) (by omega);rw[uN]at this;exact List.count_pos_iff.1 (by omega)
  ·simpa [List.getD_eq_getElem?_getD,hi]using h1
 ·rintro⟨x,hx,h1⟩
  have hb:=eX (ch:=ae t.nodes) hR.kok.ae t.nodes.length [t.root] (by intro k hk;simp at hk;subst hk;exact hR.root) x hx;have hl:x.toNat<t.nodes.length:=by omega
  refine⟨t.nodes[x.toNat],List.getElem_mem hl,?_⟩;simpa [List.getD_eq_getElem?_getD,hl]using h1
end Go.aa
namespace Go.Km
open Go Go.Vc Go.Proofs Go.aa Go.Proofs.YtpbichnnflabdaaGreatDoor
set_option maxRecDepth 100000
set_option maxHeartbeats 0
instance(X:List Fl)(t:Tre):C 107 [aE t,iE X] (boF (tF X t.nodes)) true (t.wf∧av t∧X.length=t.nodes.length):=⟨fun⟨hw,hR,hX0⟩=>by
 have hlen:=hw.len;simp only[bY]at hlen;refine kf rfl rfl ?_;repeat' first|exact k9|refine k2 ?_|apply kA|apply kI;intro hc|(apply Sn.go hX;conv=>whnf)|refine k8 ?_|apply kL;intro hl
 apply kCt [1,8,9,10] [];conv=>whnf
 refine Lp.ind (fun z:Nat=>t.nodes.length-z) (fun z=>z≤t.nodes.length∧∀(j:Nat) (hj:j<t.nodes.length),j<z→jZ X t.nodes[j]=false) (fun z=>[(10,InD z)]) (fun _=>[]) (fun _=>_) 0 ⟨Nat.zero_le _,fun j hj h=>by omega⟩ rfl rfl rfl ?_
 rintro G i ih ⟨hi,hno⟩
 by_cases hx:i<t.nodes.length
 ·have hgo:jZ X t.nodes[i]=false→∀(j:Nat) (hj:j<t.nodes.length),j<i+1→jZ X t.nodes[j]=false:=fun h j hj hji=>by
   by_cases e:j=i
   ·subst e;exact h
   ·exact hno j hj (by omega)
  have hyes:jZ X t.nodes[i]=true→tF X t.nodes=true:=fun h=>List.any_eq_true.2 ⟨t.nodes[i],List.getElem_mem hx,h⟩
  have hfit:=hR.fits i t.nodes[i] (List.getElem?_eq_getElem hx);have hko:=hR.kok i t.nodes[i] (List.getElem?_eq_getElem hx);obtain⟨kf1,kf2,kf3⟩:=ml hfit
  by_cases h6:t.nodes[i].kind=6
  ·have hk1:t.nodes[i].kids.length=1:=by have:=kf2 (by omega);omega
   obtain⟨q,hq⟩:∃q:Nat,t.nodes[i].kids=[(q:Int)]:=by
    obtain⟨x,hx1⟩:=List.length_eq_one_iff.1 hk1;refine⟨x.toNat,?_⟩;have:=hko x (by rw[hx1];simp);rw[hx1]
    congr 1
    omega
   have hql:=hko (q:Int) (by rw[hq];simp);have hq0:∀h:0<t.nodes[i].kids.length,t.nodes[i].kids[0]'h=(q:Int):=fun h=>by simp only[hq];rfl
   have hloop:jZ X t.nodes[i]=(decide (t.nodes[i].max=-1)&&(X.getD q .bot).zero):=by
    rw[jZ,hq,decide_eq_true h6,Bool.true_and];rfl
   have hxq:∀h:((q:Nat):Int).toNat<X.length,X[((q:Nat):Int).toNat]'h=X.getD q .bot:=fun h=>by
    rw[Int.toNat_natCast]at h;simp[List.getD_eq_getElem?_getD,h]
   repeat' first|exact k9|refine k2 ?_|apply kA|apply kI;intro hc|apply kL;intro hl|(apply Sn.go hX;conv=>whnf)|((simp only[hq0])<;>conv=>whnf)|refine k8 ?_|fail
   ·have hm:t.nodes[i].max=-1:=by assumption
    have hz:=hc;rw[hxq]at hz;exact aq.b (hyes (by rw[hloop,decide_eq_true hm,hz];rfl)).symm rfl
   ·have hm:t.nodes[i].max=-1:=by assumption
    have hz:=hc;rw[hxq]at hz;apply kCt [1,8,9,10] [];conv=>whnf
    exact ih (i+1) _ _ _ (by omega) ⟨by omega,hgo (by rw[hloop,hz,Bool.and_false])⟩ rfl rfl rfl
   ·have hm:=hc;apply kCt [1,8,9,10] [];conv=>whnf
    exact ih (i+1) _ _ _ (by omega) ⟨by omega,hgo (by rw[hloop,decide_eq_false hm];rfl)⟩ rfl rfl rfl
  ·have hloop:jZ X t.nodes[i]=false:=by rw[jZ,decide_eq_false h6];rfl
   repeat' first|exact k9|refine k2 ?_|apply kA|apply kI;intro hc|(apply Sn.go hX;conv=>whnf)|refine k8 ?_|apply kL;intro hl
   apply kCt [1,8,9,10] [];conv=>whnf
   exact ih (i+1) _ _ _ (by omega) ⟨by omega,hgo hloop⟩ rfl rfl rfl
 ·obtain rfl:i=t.nodes.length:=by omega
  have e:tF X t.nodes=false:=by
   rw[tF,List.any_eq_false];intro n hn;obtain⟨j,hj,rfl⟩:=List.getElem_of_mem hn;simp[hno j hj hj]
  rw[e]
  repeat' (first|exact k9|refine k2 ?_|apply kA|apply kI;intro hc|(apply Sn.go hX;conv=>whnf)|refine k8 ?_|apply kL;intro hl)⟩
abbrev wdF(p:Nat→Bool):F:=.vl (.int .u64 (wdI p))
def zE(p:Nat→Bool):List Int:=((List.range 64).filter p).map Int.ofNat
instance(p:Nat→Bool):C 60 [wdF p] (isF (zE p)) true True:=⟨fun _=>by
 obtain⟨w,hw⟩:=exEq (wdI p);have hb:∀{k:Nat} (h:k<64),_:=fun {k} h=>FF p h
 simp only[wdF];rw[←hw]at hb ⊢;refine kf rfl rfl ?_;repeat' first|exact k9|refine k2 ?_|apply kA|apply kI;intro hc|(apply Sn.go hX;conv=>whnf)|refine k8 ?_|apply kL;intro hl
 apply Stp.nj 3 3 1 rfl rfl;apply kCt [0,3,5] [];conv=>whnf
 refine Lp.ind (fun z:Nat=>64-z) (fun z=>z≤64) (fun z=>[(5,InD z)]) (fun z=>[(0,.ro 0 3 1 ((((List.range z).filter p).map Int.ofNat).map ikF))]) (fun _=>_) 0 (Nat.zero_le _) rfl rfl rfl ?_
 rintro G i ih hi
 have hfl:(((List.range i).filter p).map Int.ofNat).length≤64:=by
  rw[List.length_map];exact Nat.le_trans (List.length_filter_le _ _) (by rw[List.length_range];exact hi)
 by_cases hx:i<64
 ·have hbi:=hb hx;have hsn:∀c:Bool,p i=c→((List.range (i+1)).filter p).map Int.ofNat=((List.range i).filter p).map Int.ofNat++(if c=true then[(i:Int)]else[]):=fun c h=>by
   rw[List.range_succ,List.filter_append,List.map_append]
   cases c<;>simp[h]
  obtain⟨L,hL⟩:=exEq (((List.range i).filter p).map Int.ofNat);rw[←hL]at hfl hsn ⊢
  repeat' first|exact k9|refine k2 ?_|apply kA|apply kI;intro hc|(apply Sn.go hX;conv=>whnf)|refine k8 ?_|apply kL;intro hl
  ·have h0:=hc;rw[hbi]at h0;have hp:p i=false:=by
    cases e:p i with
    |false=>rfl
    |true=>rw[e]at h0;cases h0
   apply kCt [0,3,5] [];conv=>whnf
   refine ih (i+1) _ _ _ (by omega) (by omega) rfl rfl ?_;rw[hsn false hp,if_neg (by decide),List.append_nil];rfl
  ·have h0:=hc;rw[hbi]at h0;have hp:p i=true:=by
    cases e:p i with
    |true=>rfl
    |false=>rw[e]at h0;exact absurd rfl h0
   apply kCt [0,3,5] [];conv=>whnf
   refine ih (i+1) _ _ _ (by omega) (by omega) rfl rfl ?_;rw[hsn true hp,if_pos rfl,List.map_append];rfl
 ·obtain rfl:i=64:=by omega
  repeat' first|exact k9|refine k2 ?_|apply kA|apply kI;intro hc|(apply Sn.go hX;conv=>whnf)|refine k8 ?_|apply kL;intro hl
  refine aq.j rfl ?_;simp only[cN,oK,lk,Nat.beq,cond_true];rw[List.all_map,List.all_eq_true];intro x _;rfl⟩
set_option maxRecDepth 100000
set_option maxHeartbeats 0
abbrev fY(W:Nat→Int):List D:=[.fr (.vl (.int .u64 (W 0))),.fr (.vl (.int .u64 (W 1))),.fr (.vl (.int .u64 (W 2))),.fr (.vl (.int .u64 (W 3))),.fr (.vl (.int .u64 (W 4))),.fr (.vl (.int .u64 (W 5))),.fr (.vl (.int .u64 (W 6))),.fr (.vl (.int .u64 (W 7))),.fr (.vl (.int .u64 (W 8))),.fr (.vl (.int .u64 (W 9))),.fr (.vl (.int .u64 (W 10))),.fr (.vl (.int .u64 (W 11))),.fr (.vl (.int .u64 (W 12))),.fr (.vl (.int .u64 (W 13))),.fr (.vl (.int .u64 (W 14))),.fr (.vl (.int .u64 (W 15))),.fr (.vl (.int .u64 (W 16))),.fr (.vl (.int .u64 (W 17))),.fr (.vl (.int .u64 (W 18))),.fr (.vl (.int .u64 (W 19))),.fr (.vl (.int .u64 (W 20))),.fr (.vl (.int .u64 (W 21))),.fr (.vl (.int .u64 (W 22))),.fr (.vl (.int .u64 (W 23))),.fr (.vl (.int .u64 (W 24))),.fr (.vl (.int .u64 (W 25))),.fr (.vl (.int .u64 (W 26))),.fr (.vl (.int .u64 (W 27))),.fr (.vl (.int .u64 (W 28))),.fr (.vl (.int .u64 (W 29))),.fr (.vl (.int .u64 (W 30))),.fr (.vl (.int .u64 (W 31))),.fr (.vl (.int .u64 (W 32))),.fr (.vl (.int .u64 (W 33))),.fr (.vl (.int .u64 (W 34))),.fr (.vl (.int .u64 (W 35))),.fr (.vl (.int .u64 (W 36))),.fr (.vl (.int .u64 (W 37))),.fr (.vl (.int .u64 (W 38))),.fr (.vl (.int .u64 (W 39))),.fr (.vl (.int .u64 (W 40))),.fr (.vl (.int .u64 (W 41))),.fr (.vl (.int .u64 (W 42))),.fr (.vl (.int .u64 (W 43))),.fr (.vl (.int .u64 (W 44))),.fr (.vl (.int .u64 (W 45))),.fr (.vl (.int .u64 (W 46))),.fr (.vl (.int .u64 (W 47))),.fr (.vl (.int .u64 (W 48))),.fr (.vl (.int .u64 (W 49))),.fr (.vl (.int .u64 (W 50))),.fr (.vl (.int .u64 (W 51))),.fr (.vl (.int .u64 (W 52))),.fr (.vl (.int .u64 (W 53))),.fr (.vl (.int .u64 (W 54))),.fr (.vl (.int .u64 (W 55))),.fr (.vl (.int .u64 (W 56))),.fr (.vl (.int .u64 (W 57))),.fr (.vl (.int .u64 (W 58))),.fr (.vl (.int .u64 (W 59))),.fr (.vl (.int .u64 (W 60))),.fr (.vl (.int .u64 (W 61))),.fr (.vl (.int .u64 (W 62))),.fr (.vl (.int .u64 (W 63)))]
abbrev Lq(W:Nat→Int):List F:=[.vl (.int .u64 (W 0)),.vl (.int .u64 (W 1)),.vl (.int .u64 (W 2)),.vl (.int .u64 (W 3)),.vl (.int .u64 (W 4)),.vl (.int .u64 (W 5)),.vl (.int .u64 (W 6)),.vl (.int .u64 (W 7)),.vl (.int .u64 (W 8)),.vl (.int .u64 (W 9)),.vl (.int .u64 (W 10)),.vl (.int .u64 (W 11)),.vl (.int .u64 (W 12)),.vl (.int .u64 (W 13)),.vl (.int .u64 (W 14)),.vl (.int .u64 (W 15)),.vl (.int .u64 (W 16)),.vl (.int .u64 (W 17)),.vl (.int .u64 (W 18)),.vl (.int .u64 (W 19)),.vl (.int .u64 (W 20)),.vl (.int .u64 (W 21)),.vl (.int .u64 (W 22)),.vl (.int .u64 (W 23)),.vl (.int .u64 (W 24)),.vl (.int .u64 (W 25)),.vl (.int .u64 (W 26)),.vl (.int .u64 (W 27)),.vl (.int .u64 (W 28)),.vl (.int .u64 (W 29)),.vl (.int .u64 (W 30)),.vl (.int .u64 (W 31)),.vl (.int .u64 (W 32)),.vl (.int .u64 (W 33)),.vl (.int .u64 (W 34)),.vl (.int .u64 (W 35)),.vl (.int .u64 (W 36)),.vl (.int .u64 (W 37)),.vl (.int .u64 (W 38)),.vl (.int .u64 (W 39)),.vl (.int .u64 (W 40)),.vl (.int .u64 (W 41)),.vl (.int .u64 (W 42)),.vl (.int .u64 (W 43)),.vl (.int .u64 (W 44)),.vl (.int .u64 (W 45)),.vl (.int .u64 (W 46)),.vl (.int .u64 (W 47)),.vl (.int .u64 (W 48)),.vl (.int .u64 (W 49)),.vl (.int .u64 (W 50)),.vl (.int .u64 (W 51)),.vl (.int .u64 (W 52)),.vl (.int .u64 (W 53)),.vl (.int .u64 (W 54)),.vl (.int .u64 (W 55)),.vl (.int .u64 (W 56)),.vl (.int .u64 (W 57)),.vl (.int .u64 (W 58)),.vl (.int .u64 (W 59)),.vl (.int .u64 (W 60)),.vl (.int .u64 (W 61)),.vl (.int .u64 (W 62)),.vl (.int .u64 (W 63))]
theorem nU(W:Nat→Int):fY W=(List.range 64).map fun i=>D.fr (.vl (.int .u64 (W i))):=rfl
theorem lJ{α:Type}:∀(l:List α) (o:Nat) (v:α),o<l.length→setAt l o [v]=l.set o v
 |[],o,v,h=>by simp at h
 |c::cs,0,v,h=>by cases cs<;>rfl
 |c::cs,o+1,v,h=>by
  show c::setAt cs o [v]=c::cs.set o v
  rw[lJ cs o v (by simpa using h)]
theorem mg(W:Nat→Int){i:Nat}(h:i<64):(fY W)[0+((i:Nat):Int).toNat*1]?=some (.fr (.vl (.int .u64 (W i)))):=by
 rw[nU,Int.toNat_natCast,Nat.zero_add,Nat.mul_one,List.getElem?_map,List.getElem?_range h];rfl
theorem BN(W:Nat→Int){i:Nat}(h:i<64):(D.ag (fY W)).cells[i*1]?=some (.fr (.vl (.int .u64 (W i)))):=by
 have:=mg W h;rw[Int.toNat_natCast,Nat.zero_add]at this;exact this
def ef(W:Nat→Int)(i:Nat)(v:Int)(j:Nat):Int:=if j=i then v else W j
theorem vC(W:Nat→Int){i:Nat}(h:i<64)(v:Int):setAt (fY W) (0+((i:Nat):Int).toNat*1) [.fr (.vl (.int .u64 v))]=fY (ef W i v):=by
 rw[Int.toNat_natCast,Nat.zero_add,Nat.mul_one,lJ _ _ _ (by simpa using h),nU,nU];refine List.ext_getElem (by simp) fun j h1 h2=>?_
 simp only[List.getElem_set,List.getElem_map,List.getElem_range,ef]
 by_cases e:i=j
 ·subst e;simp
 ·have e':¬j=i:=fun q=>e q.symm
  simp[e,e']
abbrev tG(n:Int)(W:Nat→Int)(l:Int):List F:=inF n::(Lq W++[.vl (.int .u64 l)])
def yN(M:Nat→Nat→Bool)(a b:Nat):Prop:=a<64∧b<64∧M a b=true
structure LI(M Q:Nat→Nat→Bool):Prop where
 base:∀a b,yN M a b→Q a b=true
 sound:∀a b,a<64→b<64→Q a b=true→kC (yN M) a b
structure LJ(M Q Q':Nat→Nat→Bool)(i k:Nat):Prop where
 up:∀a b,a<64→b<64→Q a b=true→Q' a b=true
 sound:∀a b,a<64→b<64→Q' a b=true→kC (yN M) a b
 done:∀a c b,a<64→c<64→b<64→(a<i∨a=i∧c<k)→Q a c=true→Q c b=true→Q' a b=true
def Ga(Q:Nat→Nat→Bool):Nat:=(List.range 4096).countP fun x=>Q (x/64) (x % 64)
theorem vH{α:Type}{p q:α→Bool}:∀{l:List α},(∀x∈l,p x=true→q x=true)→(∃x∈l,p x=false∧q x=true)→l.countP p<l.countP q
 |[],_,h=>by obtain⟨x,hx,_⟩:=h;cases hx
 |a::l,h,⟨x,hx,h1,h2⟩=>by
  have hle:l.countP p≤l.countP q:=List.countP_mono_left fun y hy=>h y (by simp[hy])
  rw[List.countP_cons,List.countP_cons];rcases List.mem_cons.1 hx with rfl|hx
  ·rw[h1,h2];simp;omega
  ·have:=vH (l:=l) (fun y hy=>h y (by simp[hy])) ⟨x,hx,h1,h2⟩;have ha:=h a (by simp)
   cases hp:p a with
   |true=>rw[ha hp];simp;omega
   |false=>cases q a<;>simp<;>omega
theorem I9{Q Q':Nat→Nat→Bool}(h:∀a b,a<64→b<64→Q a b=true→Q' a b=true){a b:Nat}(ha:a<64)(hb:b<64)(h1:Q a b=false)(h2:Q' a b=true):Ga Q<Ga Q':=by
 refine vH (fun x hx hq=>?_) ⟨a*64+b,by simp;omega,?_,?_⟩
 ·have:=List.mem_range.1 hx;exact h _ _ (by omega) (by omega) hq
 ·rw[show(a*64+b)/64=a by omega,show(a*64+b) % 64=b by omega];exact h1
 ·rw[show(a*64+b)/64=a by omega,show(a*64+b) % 64=b by omega];exact h2
theorem IX(Q:Nat→Nat→Bool):Ga Q≤4096:=by
 have:=List.countP_le_length (p:=fun x=>Q (x/64) (x % 64)) (l:=List.range 4096);simpa [Ga]using this
theorem LJ.zero{M Q:Nat→Nat→Bool}(h:LI M Q):LJ M Q Q 0 0:=⟨fun _ _ _ _ h=>h,h.sound,fun a c b _ _ _ h=>by omega⟩
theorem LJ.next{M Q Q':Nat→Nat→Bool}{i k:Nat}(h:LJ M Q Q' i k)(hk:¬k<64):LJ M Q Q' (i+1) 0:=⟨h.up,h.sound,fun a c b ha hc hb hx=>h.done a c b ha hc hb (by omega)⟩
theorem LJ.skip{M Q Q':Nat→Nat→Bool}{i k:Nat}(h:LJ M Q Q' i k)(hi:i<64)(hk:k<64)(hq:Q' i k=false):LJ M Q Q' i (k+1):=⟨h.up,h.sound,fun a c b ha hc hb hx h1 h2=>by
 by_cases e:a=i∧c=k
 ·obtain⟨rfl,rfl⟩:=e;rw[h.up a c ha hc h1]at hq
  cases hq
 ·exact h.done a c b ha hc hb (by omega) h1 h2⟩
theorem LJ.take{M Q Q':Nat→Nat→Bool}{i k:Nat}(h:LJ M Q Q' i k)(hQ:LI M Q)(hi:i<64)(hk:k<64)(hq:Q' i k=true):LJ M Q (fun a b=>if a=i then Q' i b||Q k b else Q' a b) i (k+1):=⟨fun a b ha hb h1=>by
  split
  ·rename_i e;subst e;rw[h.up a b ha hb h1];rfl
  ·exact h.up a b ha hb h1,fun a b ha hb h1=>by
  split at h1
  ·rename_i e;subst e;rw[Bool.or_eq_true]at h1;rcases h1 with h1|h1
   ·exact h.sound a b ha hb h1
   ·exact(h.sound a k ha hk hq).trans (hQ.sound k b hk hb h1)
  ·exact h.sound a b ha hb h1,fun a c b ha hc hb hx h1 h2=>by
  split
  ·rename_i e;subst e
   by_cases ec:c=k
   ·subst ec;rw[h2,Bool.or_true]
   ·rw[h.done a c b ha hc hb (by omega) h1 h2];rfl
  ·exact h.done a c b ha hc hb (by omega) h1 h2⟩
theorem LJ.again{M Q Q':Nat→Nat→Bool}(hQ:LI M Q)(h:LJ M Q Q' 64 0):LI M Q':=⟨fun a b hr=>h.up a b hr.1 hr.2.1 (hQ.base a b hr),h.sound⟩
theorem LJ.same{M Q Q':Nat→Nat→Bool}(hQ:LI M Q)(h:LJ M Q Q' 64 0)(e:∀a b,a<64→b<64→Q' a b=Q a b){a b:Nat}(ha:a<64)(hb:b<64):Q a b=true↔kC (yN M) a b:=by
 refine⟨hQ.sound a b ha hb,fun hp=>?_⟩
 induction hp with
 |one h1=>exact hQ.base _ _ h1
 |more _ h2 ih=>rw[←e _ _ ha h2.2.1];exact h.done _ _ _ ha h2.1 h2.2.1 (.inl ha) (ih h2.1) (hQ.base _ _ h2)
noncomputable def la(M:Nat→Nat→Bool)(i:Nat):Bool:=@decide (kC (yN M) i i) (Classical.propDecidable _)
instance Lv(n:Int)(M:Nat→Nat→Bool)(l:Int):C 61 [.ag (tG n (fun i=>wdI (M i)) l)] (wdF (la M)) true True:=⟨fun _=>by
 refine kf rfl rfl ?_;repeat' first|exact k9|refine k1 ?_|apply kA|apply kI;intro hc|apply kL;intro hl|refine k5 ?_|refine k8 ?_|fail
 apply kCt [3] [];conv=>whnf
 refine Lp.ind (fun Q:Nat→Nat→Bool=>4096-Ga Q) (LI M) (fun _=>[]) (fun Q=>[(0,.va 0 106 (fY fun i=>wdI (Q i)))]) (fun _=>_) M ⟨fun a b h=>h.2.2,fun a b ha hb h=>.one ⟨ha,hb,h⟩⟩ rfl rfl rfl ?_
 rintro G Q ih hQ
 obtain⟨W,hW⟩:∃W:Nat→Int,W=fun i=>wdI (Q i):=⟨_,rfl⟩
 rw[←hW]
 repeat' first|exact k9|refine k1 ?_|apply kA|apply kI;intro hc|apply kL;intro hl|refine k5 ?_|refine k8 ?_|fail
 apply kCt [3,4,13] [];conv=>whnf
 refine Lp.ind (fun x:Nat×(Nat→Nat→Bool)=>64-x.1) (fun x=>x.1≤64∧LJ M Q x.2 x.1 0) (fun x=>[(13,InD x.1)]) (fun x=>[(1,.va 0 106 (fY fun i=>wdI (x.2 i)))]) (fun _=>_) (0,Q) ⟨Nat.zero_le _,LJ.zero hQ⟩ rfl rfl (by subst hW;rfl) ?_
 rintro G1 ⟨i,Q1⟩ ih1 ⟨hi,hJ⟩
 dsimp only at hi hJ ih1 ⊢
 by_cases hx:i<64
 ·obtain⟨W1,hW1⟩:∃W1:Nat→Int,W1=fun i=>wdI (Q1 i):=⟨_,rfl⟩
  rw[←hW1]
  repeat' first|exact k9|refine k1 ?_|apply kA|apply kI;intro hc|apply kL;intro hl|refine k5 ?_|refine k8 ?_|fail
  apply kCt [3,4,5,13,16] [];conv=>whnf
  refine Lp.ind (fun x:Nat×(Nat→Nat→Bool)=>64-x.1) (fun x=>x.1≤64∧LJ M Q x.2 i x.1) (fun x=>[(16,InD x.1)]) (fun x=>[(1,.va 0 106 (fY fun i=>wdI (x.2 i)))]) (fun _=>_) (0,Q1) ⟨Nat.zero_le _,hJ⟩ rfl rfl (by subst hW1;rfl) ?_
  rintro G2 ⟨k,Q2⟩ ih2 ⟨hk,hJ2⟩
  dsimp only at hk hJ2 ih2 ⊢
  by_cases hy:k<64
  ·obtain⟨W2,hW2⟩:∃W2:Nat→Int,W2=fun i=>wdI (Q2 i):=⟨_,rfl⟩
   rw[←hW2];have hbit:=FF (Q2 i) hy;rw[show wdI (Q2 i)=W2 i by rw[hW2]]at hbit
   repeat' first|exact k9|refine k1 ?_|apply kA|apply kI;intro hc|apply kL;intro hl|((apply ExK.m;exact⟨mg W2 hx⟩)<;>conv=>whnf)|((apply ExK.m;exact⟨mg W hy⟩)<;>conv=>whnf)|((apply FoA.m;exact⟨vC W2 hx _⟩)<;>conv=>whnf)|refine k5 ?_|refine k8 ?_|fail
   ·have h0:=hc;rw[hbit]at h0;have hq:Q2 i k=false:=by
     cases e:Q2 i k with
     |false=>rfl
     |true=>rw[e]at h0;cases h0
    apply kCt [3,4,5,13,16] [];conv=>whnf
    exact ih2 (k+1,Q2) _ _ _ (by dsimp only;omega) ⟨by dsimp only;omega,hJ2.skip hx hy hq⟩ rfl rfl (by subst hW2;rfl)
   ·have h0:=hc;rw[hbit]at h0;have hq:Q2 i k=true:=by
     cases e:Q2 i k with
     |true=>rfl
     |false=>rw[e]at h0;exact absurd rfl h0
    have hwd:ef W2 i (IntKind.u64.wrap ((BitVec.ofInt IntKind.u64.bits (W2 i)|||BitVec.ofInt IntKind.u64.bits (W k)).toNat:Int))=fun j=>wdI ((fun a b=>if a=i then Q2 i b||Q k b else Q2 a b) j):=by
     funext j
     unfold ef
     by_cases e:j=i
     ·subst e;rw[if_pos rfl,hW2,hW];simp only[if_true];exact Ds (Q2 j) (Q k)
     ·rw[if_neg e,hW2];simp only[e,if_false]
    apply kCt [3,4,5,13,16] [];conv=>whnf
    exact ih2 (k+1,_) _ _ _ (by dsimp only;omega) ⟨by dsimp only;omega,hJ2.take hQ hx hy hq⟩ rfl rfl (congrArg (fun z=>jv [(1,B.va 0 106 (fY z))] G2.h) hwd)
  ·obtain rfl:k=64:=by omega
   repeat' first|exact k9|refine k1 ?_|apply kA|apply kI;intro hc|apply kL;intro hl|refine k5 ?_|refine k8 ?_|fail
   apply kCt [3,4,13] [];conv=>whnf
   exact ih1 (i+1,Q2) _ _ _ (by dsimp only;omega) ⟨by dsimp only;omega,hJ2.next (by omega)⟩ rfl rfl rfl
 ·obtain rfl:i=64:=by omega
  obtain⟨W1,hW1⟩:∃W1:Nat→Int,W1=fun i=>wdI (Q1 i):=⟨_,rfl⟩
  rw[←hW1]
  repeat' first|exact k9|refine k1 ?_|apply kA|apply kI;intro hc|apply kL;intro hl|refine k5 ?_|refine k8 ?_|fail
  ·have hl:(List.range 64).map W1=(List.range 64).map W:=hc;have hWe:∀j<64,W1 j=W j:=fun j hj=>List.map_inj_left.1 hl j (List.mem_range.2 hj)
   have hQe:∀a b,a<64→b<64→Q1 a b=Q a b:=fun a b ha hb=>by
    have:=hWe a ha;rw[hW1,hW]at this;exact KP this b hb
   have hP:∀j<64,Q j j=la M j:=fun j hj=>by
    rw[Bool.eq_iff_iff,hJ.same hQ hQe hj hj,la,@decide_eq_true_iff _ (Classical.propDecidable _)]
   clear ih ih1 hc hl hWe hW1 hJ;apply kCt [7,40,41] [];conv=>whnf
   refine Lp.ind (fun z:Nat=>64-z) (fun z=>z≤64) (fun z=>[(41,InD z),(7,.fr (wdF fun j=>decide (j<z)&&la M j))]) (fun _=>[]) (fun _=>_) 0 (Nat.zero_le _) rfl ?_ rfl ?_
   ·have e0:wdI (fun j=>decide (j<0)&&la M j)=0:=(km fun j _=>by simp).trans ma;simp only[wdF];rw[e0];rfl
   rintro G3 i ih hi
   obtain⟨w,hw⟩:=exEq (wdI (fun j=>decide (j<i)&&la M j));simp only[wdF];rw[←hw]
   by_cases hx:i<64
   ·have hnw:IntKind.u64.wrap ((BitVec.ofInt IntKind.u64.bits w|||BitVec.ofInt IntKind.u64.bits (IntKind.u64.wrap ((BitVec.ofInt IntKind.u64.bits (W i)&&&BitVec.ofInt IntKind.u64.bits (IntKind.u64.wrap (1*2^(min ((i:Nat):Int).toNat IntKind.u64.bits)))).toNat:Int))).toNat:Int)=wdI (fun j=>decide (j<i+1)&&la M j):=by
     rw[hw,hW,BP hx,K1,Ds];refine km fun j hj=>?_
     by_cases e:j=i
     ·subst e;simp[hP j hj]
     ·have h1:decide (j<i+1)=decide (j<i):=decide_eq_decide.2 (by omega);simp[e,h1]
    repeat' first|exact k9|refine k1 ?_|apply kA|apply kI;intro hc|apply kL;intro hl|((apply ExK.m;exact⟨BN W hx⟩)<;>conv=>whnf)|refine k5 ?_|refine k8 ?_|fail
    rw[hnw];apply kCt [7,40,41] [];conv=>whnf
    exact ih (i+1) _ _ _ (by omega) (by omega) rfl rfl rfl
   ·obtain rfl:i=64:=by omega
    have hfin:w=wdI (la M):=by
     rw[hw];exact km fun j hj=>by simp[hj]
    repeat' first|exact k9|refine k1 ?_|apply kA|apply kI;intro hc|apply kL;intro hl|refine k5 ?_|refine k8 ?_|fail
    exact aq.j (by rw[hfin]) rfl
  ·have hne:∃a b,a<64∧b<64∧Q a b=false∧Q1 a b=true:=by
    refine Classical.byContradiction fun hno=>hc ?_;have hWe:∀j<64,W1 j=W j:=fun j hj=>by
     rw[hW1,hW];refine km fun b hb=>?_
     cases e:Q j b with
     |true=>exact hJ.up j b hj hb e
     |false=>
      cases e2:Q1 j b with
      |false=>rfl
      |true=>exact(hno ⟨j,b,hj,hb,e,e2⟩).elim
    exact(List.map_inj_left.2 fun j hj=>hWe j (List.mem_range.1 hj):(List.range 64).map W1=(List.range 64).map W)
   obtain⟨a,b,ha,hb,h1,h2⟩:=hne;have hlt:=I9 hJ.up ha hb h1 h2;have hle:=IX Q1;apply kCt [3] [];conv=>whnf
   exact ih Q1 _ _ _ (by omega) (LJ.again hQ hJ) rfl rfl (by subst hW1;rfl)⟩
end Go.Km
end
section
namespace Go.Km
open Go Go.RowKit Go.Vc
open Go.Sl hiding lk
theorem dg.i{P:Program}{Γ:Nat→Option (List F)}{t f:Nat}{η:Env}{l:List D}{k:Kr Prop}{d:D}{rd:List Nat}{e:List (Nat×B)}(h:cT P Γ η f l d rd e)(hk:k d rd e):dg P Γ t η f l k:=⟨d,rd,e,h,hk⟩
theorem u6.i{P:Program}{Γ:Nat→Option (List F)}{t b v:Nat}{η:Env}{l:List D}{k:Kr Prop}{d:D}{rd:List Nat}{e:List (Nat×B)}(h:xO P Γ η b v l d rd e)(hk:k d rd e):u6 P Γ t η b v l k:=⟨d,rd,e,h,hk⟩
def AbH(H:List (Nat×B)):Ab where
 on g Z R S w:=∃(ι:Nat→Nat→Option (Option Addr×Nat×Nat)) (O:Nat→Nat→Prop),(∀b x,lk H b=some x→x.on ⟨ι,R,Z⟩ b (O b) w)∧(∀b v y,ι b v=some y→∃x,lk H b=some x∧v≤x.ver)∧(∀b b' i,O b i→O b' i→b=b')∧(∀b i,O b i→S i)∧ι 0 0=some (some ⟨g,0,none⟩,0,0)
 le:=by
  rintro g Z Z' R R' S w w' he hw ⟨ι,O,h1,h2,h3,h4,h5⟩
  exact⟨ι,O,fun b x hx=>B.on.le (c:=⟨ι,R,Z⟩) (c':=⟨ι,R',Z'⟩) ⟨fun _ _ _ h=>h,he⟩ (fun i hi=>hw i (h4 b i hi)) (h1 b x hx),h2,h3,h4,h5⟩
theorem AbH.out{H:List (Nat×B)}{c:Cf}{O:Nat→Nat→Prop}{η:Env}{w:World}{b g:Nat}(hp:Hp c O η w)(h:(AbH H).on g c.Z c.R (O b) w):∃(c1:Cf) (O1:Nat→Nat→Prop),c1.Z=c.Z∧c1.R=c.R∧Hp c1 O1 (lk H) w∧(∀i j,O1 i j→O b j)∧At0 c1 0 0 g:=by
 obtain⟨ι,O1,h1,h2,h3,h4,h5⟩:=h;exact⟨⟨ι,c.R,c.Z⟩,O1,rfl,rfl,⟨h1,h2,h3,fun i hi=>⟨(hp.fz i hi).1,(hp.fz i hi).2.1,fun j hj=>(hp.fz i hi).2.2 b (h4 j i hj)⟩,fun i j hj=>hp.lt b j (h4 i j hj)⟩,h4,h5⟩
theorem AbH.in_{H:List (Nat×B)}{c:Cf}{O:Nat→Nat→Prop}{w:World}{g:Nat}(hp:Hp c O (lk H) w)(hg:At0 c 0 0 g):(AbH H).on g c.Z c.R (fun j=>∃i,O i j) w:=⟨c.ι,O,hp.pc,hp.bound,hp.apart,fun b i h=>⟨b,h⟩,hg⟩
structure F8 where
 q:Bool
 kc:List Nat
 h:List (Nat×B)
instance:ix F8:=⟨fun r d h=>∃m,d=.mcl 0 [] [Bo r.q]∧bL m=true∧cG m r.kc h m 0=some r.h⟩
structure M7(q:Bool)(h:List (Nat×B))(r:F8):Prop where
 h:q=r.q∧h=r.h
instance:mN F8 where
 fin r d h:=match d with
  |.mcl 0 [] [.fr (.vl (.bool q))]=>iM (reach r.kc h 10000 (ghD h++iF h) []) fun m=>eR (bL m) (match cG m r.kc h m 0 with
   |some h'=>mH h' fun h'=>M7 q h' r
   |none=>False)
  |_=>False
 ok r d h hf:=by
  split at hf
  ·rename_i q;rw[fD]at hf
   cases ho:bL (reach r.kc h 10000 (ghD h++iF h) [])with
   |false=>rw[ho]at hf;exact hf.elim
   |true=>
    rw[ho]at hf
    change (match cG _ r.kc h _ 0 with|some h'=>mH h' fun h'=>M7 q h' r|none=>False)at hf
    split at hf
    ·rename_i h' h2;rw[iv]at hf;exact⟨_,by rw[hf.h.1];rfl,ho,by rw[h2,hf.h.2]⟩
    ·exact hf.elim
  ·exact hf.elim
theorem Ext.of_eq{c c1 c':Cf}(hZ:c1.Z=c.Z)(hR:c1.R=c.R)(h:Ext c1.Z c1.R c'.Z c'.R):Ext c.Z c.R c'.Z c'.R:=by rw[←hZ,←hR];exact h
theorem noι{c c1:Cf}(hZ:c1.Z=c.Z)(hR:c1.R=c.R):(rC [] c).le c1:=⟨fun b v x hx=>by cases v<;>simp[rC,rι]at hx,by show Ext c.Z c.R c1.Z c1.R;rw[hZ,hR];exact Ext.refl _ _⟩
theorem M5{c c1:Cf}(hZ:c1.Z=c.Z)(hR:c1.R=c.R){l:List F}{us:List Value}(h:D.ah c (l.map D.fr) us):D.ah c1 (l.map D.fr) us:=D.ah.le (noι hZ hR) _ _ (bR (kk [] l) h)
theorem LF{c c1:Cf}(hZ:c1.Z=c.Z)(hR:c1.R=c.R){l:List F}{us:List Value}(h:D.ah c (l.map F.toD) us):D.ah c1 (l.map F.toD) us:=D.ah.le (noι hZ hR) _ _ (bR (dR [] l) h)
theorem FL{c:Cf}{b v:Nat}{ds:List D}{vs:List Value}(h:D.ah c (.yl b v::ds) vs):∃g us,vs=.func (.yield g) #[] #[]::us∧At0 c b v g∧D.ah c ds us:=by
 unfold D.ah at h;obtain⟨u,us,h1,h2,h3⟩:=h;unfold D.rep at h2;obtain⟨g,h4,h5⟩:=h2;exact⟨g,us,by rw[h1,h5],h4,h3⟩
theorem D7 {P:Program}{X:Tx}{L:Vc.Lp}{H H':List (Nat×B)}{nx n n':Nat}{fl:List F}{q:Bool}{kc:List Nat}{vs:List Value}{ds ds':List D} (hL:lk H 0=some (.lp 0 L)) (hn:Nat.beq fl.length L.ps.length=true) (hps:(L.ps.all fun p=>Nat.blt p L.N)=true)
  (hg:lk H n=some (.gh 0 vs (.yl 0 0::ds))) (hg':lk H' n'=some (.gh 0 vs (.yl 0 0::ds')))
  (hrun:Sn P X L.f (⟨q,kc,H'⟩:F8) ⟨⟨L.f,L.N,xV L.ps (fl.map D.fr) L.s,[.code L.asg,.br,.code L.body],[],some (0,0)⟩,[],H,nx⟩)
  {η:Env}{b v:Nat} (hb:η b=some (.ab v (AbH H))):xO P X.Γ η b v (fl.map D.fr) (Bo q) [b] [(b,.ab v (AbH H'))]:=by
 refine⟨fun η' hη W c O w us g hΓ hp hold hus hat=>?_⟩;have hb':η' b=some (.ab v (AbH H)):=(hη b (by simp)).trans hb;obtain⟨g1,e1,hon⟩:=hp.pc b _ hb';rw[show c.ι b v=_ from hat]at e1
 cases e1;obtain⟨c1,O1,z1,r1,hp1,hsub,hat1⟩:=AbH.out hp hon;obtain⟨g',L',gd,k1,k2,k3,k4,k5,k6,k7,k8,k9,k10,k11,k12⟩:=hp1.pc 0 _ hL;rw[show c1.ι 0 0=_ from hat1]at k1
 cases k1;have hus1:D.ah c1 (fl.map D.fr) us:=M5 z1 r1 hus;have hlen:=D.aW hus1;rw[List.length_map]at hlen;have hn:=Nat.eq_of_beq_eq_true hn;rw[List.all_eq_true]at hps;refine⟨L',k3,by rw[k7];simp;omega,fun fr1 cs=>?_⟩;have hz:=np (N:=L.N) (ps:=L.ps) k10 hus1 (by rw[List.length_map];exact hn) (fun p hp=>b6 (hps p hp));have e:∀(ps:List Nat) (vs:List Value) (t:Array Value),Array.foldl (fun tmps (x:Tmp×Value)=>tmps.setIfInBounds x.1 x.2) t (ps.toArray.zip vs.toArray)=(ps.zip vs).foldl (fun t (p:Nat×Value)=>t.setIfInBounds p.1 p.2) t:=by
  intro ps vs t;rw[←Array.foldl_toList,Array.toList_zip]
 rw[k6,k7,k8,k9,e L.ps us L'.tmps];generalize(L.ps.zip us).foldl (fun t (p:Nat×Value)=>t.setIfInBounds p.1 p.2) L'.tmps=tm at hz ⊢;unfold Sn at hrun;obtain⟨q',w',h,c',O',hst,⟨m,hm1,hm2,hm3⟩,hp',hold'⟩:=eL.rd (fun d h hd ⟨m,e,_⟩=>by subst e;cases hd) <| hrun ⟨w,fun j=>∃i,O1 i j,c1⟩ (fr1::cs) (hΓ.ext (by rw[z1,r1];exact Ext.refl _ _)) c1 O1 ((bF L.f (some g)).atR ⟨tm,[]⟩ [.code L.asg,.beginRound,.code L.body]) [] w
  ⟨⟨⟨tm,[]⟩,_,some g,rfl,hz,⟨_,_,rfl,rfl,_,_,rfl,rfl,_,_,rfl,rfl,rfl⟩,rfl,g,rfl,hat1⟩,rfl,hp1,⟨rfl,rfl,rfl,Nat.le_refl _,fun _ _ _=>rfl,fun i g h=>.inl ⟨i,h⟩,fun g hg=>.inl hg,Ext.refl _ _⟩,rfl⟩
 have hq:q'=q:=by
  simp only[D.mcl.injEq,true_and,List.cons.injEq,and_true,Bo,D.fr.injEq,F.vl.injEq,Value.bool.injEq]at hm1;exact hm1
 subst hq;have hst:=hst fr1 cs rfl;have p3:=Hp.ren hp' hm2 (fun _ _ h=>h) hm3;have hat3:At0 (rC m c') 0 0 g:=by
  obtain⟨ga,ua,a1,a2,_⟩:=FL (hp1.pc n _ hg);obtain⟨gb,ub,b1,b2,_⟩:=FL (p3.pc n' _ hg');rw[a1]at b1
  cases b1;have a3:c1.ι 0 0=some (some ⟨ga,0,none⟩,0,0):=a2;rw[show c1.ι 0 0=_ from hat1]at a3
  cases a3;exact b2
 have hle:c.le ⟨c.ι,c'.R,c'.Z⟩:=⟨fun _ _ _ h=>h,Ext.of_eq z1 r1 hold'.le⟩
 have hown:∀k j,rO m O' k j→O b j∨w.heap.size≤j:=by
  rintro k j ⟨b',v',_,h2⟩
  rcases hold'.own b' j h2 with⟨i,h3⟩|h3
  ·exact .inl (hsub i j h3)
  ·exact .inr h3
 refine⟨.bool q',w',⟨Bo q',[b],[(b,.ab v (AbH H'))],⟨c.ι,c'.R,c'.Z⟩,fun i j=>(i=b∧∃k,rO m O' k j)∨(i≠b∧O i j),⟨rfl,rfl,rfl⟩,hle,aX _,?_,?_⟩,hst⟩
 ·show Hp _ _ (up η' b (.ab v (AbH H'))) w'
  refine⟨fun i x hx=>?_,fun i u y hy=>?_,fun i i' j h1 h2=>?_,fun j hj=>?_,fun i j hj=>?_⟩
  ·by_cases e:b=i
   ·subst e;rw[bf]at hx
    cases hx;have hS:(fun j=>(b=b∧∃k,rO m O' k j)∨(b≠b∧O b j))=fun j=>∃k,rO m O' k j:=by
     funext j
     simp
    rw[hS];exact⟨g,hat,AbH.in_ (c:=rC m c') p3 hat3⟩
   ·rw[aG e]at hx;have hS:(fun j=>(i=b∧∃k,rO m O' k j)∨(i≠b∧O i j))=O i:=by
     funext j
     simp[Ne.symm e]
    rw[hS];exact(hp.pc i x hx).le hle fun j hj=>hold'.cv j (hp.lt i j hj) fun⟨k,hk⟩=>e (hp.apart b i j (hsub k j hk) hj)
  ·obtain⟨x,hx,hv⟩:=hp.bound i u y hy
   by_cases e:b=i
   ·subst e;rw[hb']at hx
    cases hx;exact⟨_,bf,hv⟩
   ·exact⟨x,by rw[aG e];exact hx,hv⟩
  ·rcases h1 with⟨e1,k,g1⟩|⟨e1,g1⟩<;>rcases h2 with⟨e2,k',g2⟩|⟨e2,g2⟩
   ·rw[e1,e2]
   ·exfalso
    rcases hown k j g1 with h|h
    ·exact e2 (hp.apart i' b j g2 h)
    ·have:=hp.lt i' j g2;omega
   ·exfalso
    rcases hown k' j g2 with h|h
    ·exact e1 (hp.apart i b j g1 h)
    ·have:=hp.lt i j g1;omega
   ·exact hp.apart i i' j g1 g2
  ·obtain⟨a1,a2,a3⟩:=p3.fz j hj;refine⟨a1,a2,fun i hi=>?_⟩;rcases hi with⟨_,k,g1⟩|⟨e1,g1⟩
   ·exact a3 k g1
   ·rcases hold'.mF j hj with h|⟨k,h⟩|h
    ·rw[z1]at h;exact(hp.fz j h).2.2 i g1
    ·exact e1 (hp.apart i b j g1 (hsub k j h))
    ·have:=hp.lt i j g1;exact absurd h (Nat.not_le.2 this)
  ·rcases hj with⟨_,k,g1⟩|⟨e1,g1⟩
   ·exact p3.lt k j g1
   ·exact Nat.lt_of_lt_of_le (hp.lt i j g1) hold'.size
 ·refine⟨hold'.os.trans hold.os,hold'.tape.trans hold.tape,hold'.output.trans hold.output,Nat.le_trans hold.size hold'.size,fun j hj hnj=>?_,fun i j hj=>?_,fun j hj=>?_,hold.le.trans hle.ext⟩
  ·rw[hold'.cv j (Nat.lt_of_lt_of_le hj hold.size) (fun⟨k,hk⟩=>?_)]
   ·exact hold.cv j hj hnj
   ·rcases hold.own b j (hsub k j hk)with h|h
    ·exact hnj h
    ·omega
  ·rcases hj with⟨_,k,g1⟩|⟨e1,g1⟩
   ·rcases hown k j g1 with h|h
    ·exact hold.own b j h
    ·exact .inr (Nat.le_trans hold.size h)
   ·exact hold.own i j g1
  ·rcases hold'.mF j hj with h|⟨k,h⟩|h
   ·rw[z1]at h;exact hold.mF j h
   ·rcases hold.own b j (hsub k j h)with h|h
    ·exact .inr (.inl h)
    ·exact .inr (.inr h)
   ·exact .inr (.inr (Nat.le_trans hold.size h))
def noS(H:List (Nat×B)):List (Nat×B):=H.map fun p=>(p.1,match p.2 with | .lp v l=>.lp v { l with s:=[] }|x=>x)
theorem BH:∀(H:List (Nat×B)) (i:Nat),lk (noS H) i=(lk H i).map fun x=>match x with | .lp v l=>.lp v { l with s:=[] }|x=>x
 |[],i=>rfl
 |(b,x)::H,i=>by
  simp only[noS,List.map_cons,lk]
  cases Nat.beq b i with
  |true=>rfl
  |false=>exact BH H i
theorem Hp.noS{H:List (Nat×B)}{c:Cf}{O:Nat→Nat→Prop}{w:World}(h:Hp c O (lk H) w):Hp c O (lk (Km.noS H)) w:=by
 refine⟨fun b x hx=>?_,fun b v y hy=>?_,h.apart,h.fz,h.lt⟩
 ·rw[BH]at hx
  cases e:lk H b with
  |none=>rw[e]at hx;cases hx
  |some x0=>
   rw[e]at hx;have h0:=h.pc b x0 e
   cases x0 with
   |lp v l=>
    cases hx;obtain⟨g,L,gd,h1,h2,h3,h4,h5,h6,h7,h8,h9,h10,h11,h12⟩:=h0;exact⟨g,L,gd,h1,h2,h3,h4,h5,h6,h7,h8,h9,⟨h10.size,fun k d hk=>by cases hk⟩,h11,h12⟩
   |_=>cases hx;exact h0
 ·obtain⟨x,hx,hv⟩:=h.bound b v y hy;rw[BH,hx];exact⟨_,rfl,by cases x<;>exact hv⟩
def Cy(P:Program)(Γ:Nat→Option (List F))(f:FuncId)(fl:List D)(n:Nat)(ps:Nat→List D):Prop:=
 ∀A:Nat→Ab,(∀i,i<n→∀(η:Env) b v,η b=some (.ab v (A i))→xO P Γ η b v (ps i) (Bo true) [b] [(b,.ab v (A (i+1)))])→∀(η:Env) b v,η b=some (.ab v (A 0))→cT P Γ η f (.yl b v::fl) (.tp []) [b] [(b,.ab v (A n))]
theorem Bd {P:Program}{Γ:Nat→Option (List F)}{f:FuncId}{fl:List F}{n:Nat}{ps:Nat→List D} (hit:Cy P Γ f (fl.map F.toD) n ps) {η:Env}{H:List Value→Nat→List (Nat×B)}{b0 v0:Nat}{m0 μ:Rn}{kc:List Nat}{hb h0 e h'':List (Nat×B)}{x x0 ds':List D}{rd:List Nat}
  (hy:∀vs i,i<n→∀(η:Env) b v,η b=some (.ab v (AbH (H vs i)))→xO P Γ η b v (ps i) (Bo true) [b] [(b,.ab v (AbH (H vs (i+1))))])
  (hs:vA η (.yl b0 v0::x) (m0.map (·.1)) μ ds' rd e) (ho:bL m0=true) (hblk:∀b y,lk hb b=some y→η b=some y∧b∈rd) (h00:m0[0]?=some (b0,v0))
  (hm0:cG m0 kc hb m0 0=some h0) (hx0:aO m0 x=some x0) (hxv:∀η' c O w,(∀b∈rd,η' b=η b)→Hp c O η' w→∃us,D.ah c x us) (he:cG μ [] e μ 0=some h'')
  (hH0:∀vs,H vs 0=h0++[(m0.length,.gh 0 vs (.yl 0 0::x0))]) (hHn:∀vs,noS (H vs n)=h''++[(μ.length,.gh 0 vs ds')]):cT P Γ η f (.yl b0 v0::fl.map F.toD) (.tp []) rd e:=by
 refine⟨fun η' hη' W c O w vs hΓ hp hold hvs=>?_⟩;have hp1:=Hp.ren hp ho (fun b y hy=>(hη' b (hblk b y hy).2).trans (hblk b y hy).1) hm0;obtain⟨g,vs1,rfl,hat,hfl⟩:=FL hvs;obtain⟨us1,hus1⟩:=hxv η' c O w hη' hp;obtain⟨us,hus0⟩:=exEq (.func (.yield g) #[] #[]::us1);have hus:D.ah c (.yl b0 v0::x) us:=by
  unfold D.ah;exact⟨_,us1,hus0,by unfold D.rep;exact⟨g,hat,rfl⟩,hus1⟩
 have hpos:cc m0 b0 v0 0=some 0:=by
  have:=qz 0 ho h00;simpa using this
 have hx1:D.ah (rC m0 c) (.yl 0 0::x0) us:=bR (by simp only[aO,bj,hpos,hx0]) hus;have hat0:At0 (rC m0 c) 0 0 g:=(fZ hpos).trans hat;have hp2:Hp (rC m0 c) (rO m0 O) (lk (H us 0)) w:=by
  rw[hH0];refine⟨fun i y hy=>?_,fun i v y hy=>?_,hp1.apart,hp1.fz,hp1.lt⟩
  ·rw[rZ]at hy
   cases hl:lk h0 i with
   |some z=>rw[hl]at hy;cases hy;exact hp1.pc i _ hl
   |none=>
    rw[hl]at hy
    cases hb:Nat.beq m0.length i with
    |false=>simp[hb]at hy
    |true=>
     simp only[hb,cond_true]at hy
     cases hy;exact hx1
  ·obtain⟨z,hz,hv⟩:=hp1.bound i v y hy;exact⟨z,by rw[rZ,hz],hv⟩
 let c2:Cf:=⟨fun b v=>if b=b0∧v=v0 then c.ι b0 v0 else none,c.R,c.Z⟩
 let O2:Nat→Nat→Prop:=fun i j=>i=b0∧∃k,rO m0 O k j
 let η2:Env:=fun i=>if i=b0 then some (.ab v0 (AbH (H us 0)))else none
 have hO:∀j,(∃k,rO m0 O k j)→∃b∈m0.map (·.1),O b j:=fun j ⟨k,b,v,e1,e2⟩=>⟨b,List.mem_map.2 ⟨(b,v),List.mem_of_getElem? e1,rfl⟩,e2⟩
 have hat2:At0 c2 b0 v0 g:=by
  show(if b0=b0∧v0=v0 then c.ι b0 v0 else none)=_
  rw[if_pos ⟨rfl,rfl⟩];exact hat
 have hp3:Hp c2 O2 η2 w:=by
  refine⟨fun i y hy=>?_,fun i v y hy=>?_,fun i i' j h1 h2=>h1.1.trans h2.1.symm,fun j hj=>?_,fun i j hj=>?_⟩
  ·by_cases e:i=b0
   ·subst e;simp only[η2,if_true]at hy
    cases hy;have hS:O2 i=fun j=>∃k,rO m0 O k j:=by
     funext j
     simp[O2]
    rw[hS];exact⟨g,hat2,AbH.in_ (c:=rC m0 c) hp2 hat0⟩
   ·simp only[η2,e,if_false]at hy
    cases hy
  ·have hy':(if i=b0∧v=v0 then c.ι b0 v0 else none)=some y:=hy
   split at hy'
   ·rename_i e;exact⟨.ab v0 (AbH (H us 0)),by simp only[η2,e.1,if_true],by rw[e.2];exact Nat.le_refl _⟩
   ·cases hy'
  ·obtain⟨a1,a2,a3⟩:=hp2.fz j hj;exact⟨a1,a2,fun i ⟨_,k,h⟩=>a3 k h⟩
  ·obtain⟨_,k,h⟩:=hj;exact hp2.lt k j h
 have hvs2:D.ah c2 (.yl b0 v0::fl.map F.toD) (.func (.yield g) #[] #[]::vs1):=by
  unfold D.ah;exact⟨_,vs1,rfl,by unfold D.rep;exact⟨g,hat2,rfl⟩,LF (c:=c) (c1:=c2) rfl rfl hfl⟩
 have hΓ2:GOk Γ c2:=hΓ.ext (Ext.refl _ _);obtain⟨hcf,hcall⟩:=(hit (fun i=>AbH (H us i)) (fun i hi η b v h=>hy us i hi η b v h) η2 b0 v0 (by simp[η2])).go η2 (fun _ _=>rfl) ⟨w,fun j=>∃b∈m0.map (·.1),O b j,c2⟩ c2 O2 w _ hΓ2 hp3 ⟨rfl,rfl,rfl,Nat.le_refl _,fun _ _ _=>rfl,fun i j h=>.inl (hO j h.2),fun g hg=>.inl hg,Ext.refl _ _⟩ hvs2;refine⟨hcf,hcall.mono ?_⟩
 rintro e' w' ⟨v,rfl,d',rd',e2,c',O',⟨rfl,rfl,rfl⟩,k2,k3,k4,k5⟩
 refine⟨v,rfl,?_⟩;obtain⟨g2,a1,a2⟩:=k4.pc b0 (.ab v0 (AbH (H us n))) bf;obtain⟨c3,O3,z3,r3,p3,hsub,_⟩:=AbH.out k4 a2;have p4:=Go.Km.Hp.noS p3;rw[hHn]at p4;refine pX hs rfl he hη' hp hold hus p4 ⟨k5.os,k5.tape,k5.output,k5.size,k5.cv,fun i j h=>k5.own b0 j (hsub i j h),fun j hj=>k5.mF j (by rw[←z3];exact hj),by rw[z3,r3];exact k5.le⟩ ?_;unfold D.rep at k3 ⊢;obtain⟨vs2,b1,b2⟩:=k3;refine⟨vs2,b1,?_⟩;unfold D.ah at b2 ⊢;exact b2
theorem DS {P:Program}{X:Tx} (hX:iP P X) {f:FuncId}{fi:Fi} (hf:X.fi f=some fi) {fl:List F}{n:Nat}{ps:Nat→List D} (hN:Nat.ble (fl.length+1) fi.N=true)
  (hrun:∀A:Nat→Ab,(∀i,i<n→∀(η:Env) b v,η b=some (.ab v (A i))→xO P X.Γ η b v (ps i) (Bo true) [b] [(b,.ab v (A (i+1)))])→∀vs,
   Sn P X f (⟨.tp [],[(0,.ab 0 (A n)),(1,.gh 0 vs (.yl 0 0::fl.map F.toD))]⟩:uz) ⟨⟨f,fi.N,j9 0 (.yl 0 0::fl.map F.toD),[.code fi.body],[],none⟩,[],[(1,.gh 0 vs (.yl 0 0::fl.map F.toD)),(0,.ab 0 (A 0))],2⟩):Cy P X.Γ f (fl.map F.toD) n ps:=by
 intro A hA η b v hb;have hl:aO [(b,v)] (.yl b v::fl.map F.toD)=some (.yl 0 0::fl.map F.toD):=by
  simp only[aO,bj,cc,Nat.beq_refl,cond_true,dR]
 refine uq hX hf (x:=[]) (x0:=[]) (l:=.yl b v::fl.map F.toD) (l0:=.yl 0 0::fl.map F.toD) (m0:=[(b,v)]) (μ:=[(b,v)]) (hb:=[(b,.ab v (A 0))]) (h0:=[(0,.ab 0 (A 0))]) (d':=.tp []) (ds':=.yl 0 0::fl.map F.toD) (h'':=[(0,.ab 0 (A n))])
  (by simp[bL]) ?_ ⟨by simp[bL],?_,?_,?_,?_,?_⟩ (by simp only[cG,lk,Nat.beq_refl,cond_true,B.ver,ez]) hl (by simp only[aO]) (fun _ _ _ _ _ _=>⟨[],by unfold D.ah;rfl⟩) (by simpa using hN) (by simp only[bj,aO]) (by simp only[cG,lk,Nat.beq_refl,cond_true,B.ver,ez]) ?_
 ·intro b' x hx;simp only[lk]at hx
  cases e:Nat.beq b b' with
  |true=>rw[e]at hx;cases hx;have:=Nat.eq_of_beq_eq_true e;subst this;exact⟨hb,by simp⟩
  |false=>rw[e]at hx;cases hx
 ·intro b' hb';simp only[List.map_cons,List.map_nil,List.mem_singleton]at hb';subst hb';exact⟨.ab v (A n),by simp only[lk,Nat.beq_refl,cond_true]⟩
 ·intro b' x hx;simp only[lk]at hx
  cases e:Nat.beq b b' with
  |true=>have:=Nat.eq_of_beq_eq_true e;subst this;simp
  |false=>rw[e]at hx;cases hx
 ·intro b' x hx;simp only[lk]at hx
  cases e:Nat.beq b b' with
  |true=>rw[e]at hx;cases hx;have:=Nat.eq_of_beq_eq_true e;subst this;exact⟨rfl,.inl ⟨0,rfl⟩⟩
  |false=>rw[e]at hx;cases hx
 ·intro b' x y hx hy;simp only[lk]at hx
  cases e:Nat.beq b b' with
  |true=>rw[e]at hx;cases hx;have:=Nat.eq_of_beq_eq_true e;subst this;rw[hb]at hy;cases hy;exact Nat.le_refl _
  |false=>rw[e]at hx;cases hx
 ·intro i b' v' hi
  cases i with
  |zero=>
   simp at hi;obtain⟨rfl,rfl⟩:=hi;exact .inr (.inr (.inr ⟨0,by simp,by simp⟩))
  |succ i=>simp at hi
 ·intro vs;simpa using hrun A hA vs
theorem Np{c:Cf}{O:Nat→Nat→Prop}{η:Env}{w:World}{b v:Nat}{a:Ab}(hp:Hp c O η w)(h:η b=some (.ab v a)):∃u,D.rep c (.yl b v) u:=by
 obtain⟨g,h1,_⟩:=hp.pc b _ h;exact⟨_,by unfold D.rep;exact⟨g,h1,rfl⟩⟩
theorem NJ{c:Cf}{O:Nat→Nat→Prop}{η:Env}{w:World}{b v:Nat}{L:Vc.Lp}(hp:Hp c O η w)(h:η b=some (.lp v L)):∃u,D.rep c (.ptr L.db L.dv 0) u:=by
 obtain⟨g,L',gd,h1,h2,h3,h4,h5,h6,h7,h8,h9,h10,h11,h12⟩:=hp.pc b _ h;exact⟨_,by unfold D.rep;exact⟨gd,h11,rfl⟩⟩
def ju(η:Env):List Nat→List (Nat×B)
 |[]=>[]
 |b::l=>match η b with
  |some x=>(b,x)::ju η l
  |none=>ju η l
def lB(e:List (Nat×B)):Rn:=e.map fun p=>(p.1,p.2.ver)
theorem kZ{η:Env}:∀{l:List Nat}{b:Nat}{y:B},lk (ju η l) b=some y→η b=some y∧b∈l
 |[],b,y,h=>by cases h
 |a::l,b,y,h=>by
  simp only[ju]at h
  split at h
  ·rename_i x hx;simp only[lk]at h
   cases e:Nat.beq a b with
   |true=>
    rw[e]at h
    cases h;have:=Nat.eq_of_beq_eq_true e;subst this;exact⟨hx,by simp⟩
   |false=>
    rw[e]at h;exact⟨(kZ h).1,List.mem_cons_of_mem _ (kZ h).2⟩
  ·exact⟨(kZ h).1,List.mem_cons_of_mem _ (kZ h).2⟩
theorem tL{α:Type}:∀{e:List (Nat×α)}{b:Nat}{x:α},lk e b=some x→(b,x)∈e
 |[],b,x,h=>by cases h
 |(a,y)::e,b,x,h=>by
  simp only[lk]at h
  cases q:Nat.beq a b with
  |true=>
   rw[q]at h
   cases h;rw[Nat.eq_of_beq_eq_true q];simp
  |false=>
   rw[q]at h;exact List.mem_cons_of_mem _ (tL h)
theorem vL{α:Type}:∀{e:List (Nat×α)}{b:Nat},b∈e.map (·.1)→∃x,lk e b=some x
 |[],b,h=>by cases h
 |(a,y)::e,b,h=>by
  simp only[lk]
  cases q:Nat.beq a b with
  |true=>exact⟨y,rfl⟩
  |false=>
   simp only[List.map_cons,List.mem_cons]at h;rcases h with rfl|h
   ·rw[Nat.beq_refl]at q;cases q
   ·exact vL h
def Kz:B→Bool
 |.lp _ l=>l.s.isEmpty
 |.gh _ _ _=>false
 |_=>true
def GY(i b v:Nat):List D→List D→Bool
 |d::l,d'::l'=>(match d,d' with
  |.ptr b1 v1 o,.ptr i1 0 o'=>Nat.beq b1 b&&Nat.beq v1 v&&Nat.beq i1 i&&Nat.beq o o'
  |.own b1 v1,.own i1 0=>Nat.beq b1 b&&Nat.beq v1 v&&Nat.beq i1 i
  |.yl b1 v1,.yl i1 0=>Nat.beq b1 b&&Nat.beq v1 v&&Nat.beq i1 i
  |_,_=>false)||GY i b v l l'
 |_,_=>false
theorem Dt{i b v:Nat}:∀{l l':List D},GY i b v l l'=true→(∃j o:Nat,l[j]?=some (.ptr b v o)∧l'[j]?=some (.ptr i 0 o))∨(∃j:Nat,l[j]?=some (.own b v)∧l'[j]?=some (.own i 0))∨∃j:Nat,l[j]?=some (.yl b v)∧l'[j]?=some (.yl i 0)
 |[],_,h=>by cases h
 |d::l,[],h=>by cases h
 |d::l,d'::l',h=>by
  simp only[GY,Bool.or_eq_true]at h;rcases h with h|h
  ·split at h
   ·simp only[Bool.and_eq_true]at h;obtain⟨⟨⟨h1,h2⟩,h3⟩,h4⟩:=h;rw[Nat.eq_of_beq_eq_true h1,Nat.eq_of_beq_eq_true h2,Nat.eq_of_beq_eq_true h3,Nat.eq_of_beq_eq_true h4];exact .inl ⟨0,_,rfl,rfl⟩
   ·simp only[Bool.and_eq_true]at h;obtain⟨⟨h1,h2⟩,h3⟩:=h;rw[Nat.eq_of_beq_eq_true h1,Nat.eq_of_beq_eq_true h2,Nat.eq_of_beq_eq_true h3];exact .inr (.inl ⟨0,rfl,rfl⟩)
   ·simp only[Bool.and_eq_true]at h;obtain⟨⟨h1,h2⟩,h3⟩:=h;rw[Nat.eq_of_beq_eq_true h1,Nat.eq_of_beq_eq_true h2,Nat.eq_of_beq_eq_true h3];exact .inr (.inr ⟨0,rfl,rfl⟩)
   ·cases h
  ·rcases Dt h with⟨j,o,h1,h2⟩|⟨j,h1,h2⟩|⟨j,h1,h2⟩
   ·exact .inl ⟨j+1,o,by simpa using h1,by simpa using h2⟩
   ·exact .inr (.inl ⟨j+1,by simpa using h1,by simpa using h2⟩)
   ·exact .inr (.inr ⟨j+1,by simpa using h1,by simpa using h2⟩)
def CP(η:Env)(l ds':List D):Nat→Rn→Bool
 |_,[]=>true
 |i,(b,v)::μ=>(Nat.beq v (nv η b)||GY i b v l ds')&&CP η l ds' (i+1) μ
theorem zf{η:Env}{l ds':List D}:∀{μ:Rn}{k i b v:Nat},CP η l ds' k μ=true→μ[i]?=some (b,v)→v=nv η b∨GY (k+i) b v l ds'=true
 |[],k,i,b,v,h,hi=>by simp at hi
 |(b1,v1)::μ,k,i,b,v,h,hi=>by
  simp only[CP,Bool.and_eq_true,Bool.or_eq_true]at h
  cases i with
  |zero=>
   simp at hi;obtain⟨rfl,rfl⟩:=hi;exact h.1.imp Nat.eq_of_beq_eq_true id
  |succ i=>
   have:=zf h.2 (by simpa using hi)
   rwa [show k+1+i=k+(i+1)by omega]at this
def Jj(η:Env):List (Nat×B)→Bool
 |[]=>true
 |(b,x)::e=>(match η b with
  |some y=>Nat.ble y.ver x.ver
  |none=>true)&&Jj η e
theorem CJ{η:Env}:∀{e:List (Nat×B)}{b:Nat}{x y:B},Jj η e=true→(b,x)∈e→η b=some y→y.ver≤x.ver
 |(b1,x1)::e,b,x,y,h,hm,hy=>by
  simp only[Jj,Bool.and_eq_true]at h;rcases List.mem_cons.1 hm with e1|hm
  ·cases e1;rw[hy]at h;exact Nat.le_of_ble_eq_true h.1
  ·exact CJ h.2 hm hy
def Gi(η:Env)(l:List D)(e:List (Nat×B))(ds':List D):Bool:=bL (lB e)&&e.all (fun p=>Kz p.2)&&Jj η e&&CP η l ds' 0 (lB e)
theorem Fq{η:Env}{l:List D}{e:List (Nat×B)}{ds':List D}{bs:List Nat}(hbs:bs=e.map (·.1))(h:Gi η l e ds'=true):vA η l bs (lB e) ds' (e.map (·.1)) e:=by
 simp only[Gi,Bool.and_eq_true,List.all_eq_true]at h;obtain⟨⟨⟨h1,h2⟩,h3⟩,h4⟩:=h;subst hbs;refine⟨h1,fun b hb=>vL hb,fun b x hx=>List.mem_map.2 ⟨_,tL hx,rfl⟩,fun b x hx=>⟨?_,.inl ?_⟩,fun b x y hx hy=>CJ h3 (tL hx) hy,fun i b v hi=>?_⟩
 ·have:=h2 _ (tL hx)
  revert this
  cases x<;>simp[Kz]
 ·obtain⟨i,hi⟩:=List.mem_iff_getElem?.1 (tL hx);exact⟨i,by simp[lB,hi]⟩
 ·rcases zf h4 hi with h|h
  ·exact .inl h
  ·rw[Nat.zero_add]at h;exact .inr (Dt h)
def sL(η:Env):D→Bool
 |.ptr b v 0=>(match η b with
  |some (.va v' _ _)=>Nat.beq v v'
  |_=>false)
 |.yl b v=>(match η b with
  |some (.ab v' _)=>Nat.beq v v'
  |_=>false)
 |_=>false
theorem Ge{η:Env}{c:Cf}{O:Nat→Nat→Prop}{w:World}(hp:Hp c O η w):∀{d:D},sL η d=true→∃u,D.rep c d u:=by
 intro d h;unfold sL at h
 split at h
 ·split at h
  ·rename_i hb;have:=Nat.eq_of_beq_eq_true h;subst this;obtain⟨g,vs,h1,_⟩:=hp.pc _ _ hb;exact⟨_,by unfold D.rep;exact⟨g,h1,rfl⟩⟩
  ·cases h
 ·split at h
  ·rename_i hb;have:=Nat.eq_of_beq_eq_true h;subst this;exact Np hp hb
  ·cases h
 ·cases h
theorem vP{η:Env}{c:Cf}{O:Nat→Nat→Prop}{w:World}(hp:Hp c O η w):∀{l:List D},l.all (sL η)=true→∃us,D.ah c l us
 |[],_=>⟨[],by unfold D.ah;rfl⟩
 |d::l,h=>by
  simp only[List.all_cons,Bool.and_eq_true]at h;obtain⟨u,hu⟩:=Ge hp h.1;obtain⟨us,hus⟩:=vP hp h.2;exact⟨u::us,by unfold D.ah;exact⟨_,_,rfl,hu,hus⟩⟩
def zY:D→Nat
 |.ptr b _ _=>b
 |.yl b _=>b
 |_=>0
theorem zM{η η':Env}{d:D}(h:η' (zY d)=η (zY d))(hd:sL η d=true):sL η' d=true:=by
 unfold sL at hd ⊢
 split at hd
 ·simp only[zY]at h;simp only[h];exact hd
 ·simp only[zY]at h;simp only[h];exact hd
 ·cases hd
theorem vY {P:Program}{X:Tx}{f:FuncId}{fl:List F}{n:Nat}{fs:Nat→List F} (hit:Cy P X.Γ f (fl.map F.toD) n (fun i=>(fs i).map D.fr)) {η:Env}{b0 v0 m nx:Nat}{L Lc:Vc.Lp}{x x0:List D}{kc bs:List Nat}{e:List (Nat×B)}{T:Nat→List (Nat×B)}
  (h0:η b0=some (.lp v0 L)) (hbs:e.map (·.1)=bs) (hb0:(lB (ju η (b0::bs)))[0]?=some (b0,v0)) (hbb:(ju η (b0::bs)).map (·.1)=b0::bs)
  (hm:(lB (ju η (b0::bs))).length=m) (ho:bL (lB (ju η (b0::bs)))=true)
  (hm0:cG (lB (ju η (b0::bs))) kc (ju η (b0::bs)) (lB (ju η (b0::bs))) 0=some ((0,.lp 0 Lc)::T 0))
  (hx:aO (lB (ju η (b0::bs))) (.ptr L.db L.dv 0::x)=some x0) (hxh:(x.all fun d=>sL η d&&bs.elem (zY d))=true)
  (hbk:Gi η (.yl b0 v0 :: .ptr L.db L.dv 0::x) ((b0,.lp v0 { L with s:=[] })::e) (.yl 0 0::x0)=true)
  (he:cG (lB ((b0,.lp v0 { L with s:=[] })::e)) [] ((b0,.lp v0 { L with s:=[] })::e) (lB ((b0,.lp v0 { L with s:=[] })::e)) 0=some ((0,.lp 0 { Lc with s:=[] })::noS (T n)))
  (hlen:∀i,i<n→Nat.beq (fs i).length Lc.ps.length=true) (hps:(Lc.ps.all fun p=>Nat.blt p Lc.N)=true) (hgT:∀i vs,lk ((0,.lp 0 Lc)::(T i++[(m,.gh 0 vs (.yl 0 0::x0))])) m=some (.gh 0 vs (.yl 0 0::x0)))
  (hround:∀vs i,i<n→Sn P X Lc.f (⟨true,kc,(0,.lp 0 Lc)::(T (i+1)++[(m,.gh 0 vs (.yl 0 0::x0))])⟩:F8) ⟨⟨Lc.f,Lc.N,xV Lc.ps ((fs i).map D.fr) Lc.s,[.code Lc.asg,.br,.code Lc.body],[],some (0,0)⟩,[],(0,.lp 0 Lc)::(T i++[(m,.gh 0 vs (.yl 0 0::x0))]),nx⟩) :
  cT P X.Γ η f (.yl b0 v0::fl.map F.toD) (.tp []) (b0::bs) ((b0,.lp v0 { L with s:=[] })::e):=by
 have hbs':(lB (ju η (b0::bs))).map (·.1)=((b0,B.lp v0 { L with s:=[] })::e).map (·.1):=by
  have:∀e:List (Nat×B),(lB e).map (·.1)=e.map (·.1):=fun e=>by simp[lB,Function.comp_def]
  rw[this,hbb,List.map_cons,hbs]
 have hback:=Fq hbs' hbk;rw[List.map_cons,hbs]at hback;have hme:(lB ((b0,B.lp v0 { L with s:=[] })::e)).length=m:=by
  rw[←hm];have:=congrArg List.length hbs';simpa [lB]using this.symm
 refine Bd hit (H:=fun vs i=>(0,.lp 0 Lc)::(T i++[(m,.gh 0 vs (.yl 0 0::x0))])) (fun vs i hi η b v hb=>D7 (n:=m) (n':=m) (ds:=x0) (ds':=x0) rfl (hlen i hi) hps (hgT i vs) (hgT (i+1) vs) (hround vs i hi) hb) hback ho (fun b y hy=>kZ hy) hb0 hm0 hx ?_ he (fun vs=>by rw[hm];rfl) (fun vs=>by rw[hme];simp[noS]);intro η' c O w hη hp;obtain⟨u1,q1⟩:=NJ hp ((hη b0 (by simp)).trans h0);obtain⟨us,q2⟩:=vP (l:=x) hp (by
  rw[List.all_eq_true]at hxh ⊢;intro d hd;have:=hxh d hd;rw[Bool.and_eq_true]at this;exact zM (hη _ (List.mem_cons_of_mem _ (by simpa using this.2))) this.1)
 exact⟨u1::us,by unfold D.ah;exact⟨_,_,rfl,q1,q2⟩⟩
theorem Bu{c:Cf}{O:Nat→Nat→Prop}{η:Env}{w:World}{b v t:Nat}{cs:List D}(hp:Hp c O η w)(h:η b=some (.va v t cs)):∃u,D.rep c (.ptr b v 0) u:=by
 obtain⟨g,vs,h1,_⟩:=hp.pc b _ h;exact⟨_,by unfold D.rep;exact⟨g,h1,rfl⟩⟩
theorem GA {P:Program}{X:Tx} (hX:iP P X) {f cl:FuncId}{fi:Fi} (hf:X.fi f=some fi) {t0 t1 t2:Nat}{l:List F}{g ii:F}{S S':List F} (hN:Nat.ble (l.length+1) fi.N=true)
  (hrun:∀vs,Sn P X f (⟨.tp [],[(0,.va 0 t0 [.fr g]),(1,.va 0 t1 (S'.map .fr)),(2,.va 0 t2 [.fr ii]),(3,.gh 0 vs ((l.map F.toD++[.cl cl [.ptr 0 0 0,.ptr 1 0 0,.ptr 2 0 0]])++[.ptr 0 0 0,.ptr 1 0 0,.ptr 2 0 0]))]⟩:uz)
   ⟨⟨f,fi.N,j9 0 (l.map F.toD++[.cl cl [.ptr 0 0 0,.ptr 1 0 0,.ptr 2 0 0]]),[.code fi.body],[],none⟩,[],[(3,.gh 0 vs ((l.map F.toD++[.cl cl [.ptr 0 0 0,.ptr 1 0 0,.ptr 2 0 0]])++[.ptr 0 0 0,.ptr 1 0 0,.ptr 2 0 0])),(0,.va 0 t0 [.fr g]),(1,.va 0 t1 (S.map .fr)),(2,.va 0 t2 [.fr ii])],4⟩)
  {η:Env}{b0 v0 b1 v1 b2 v2:Nat} (h0:η b0=some (.va v0 t0 [.fr g])) (h1:η b1=some (.va v1 t1 (S.map .fr))) (h2:η b2=some (.va v2 t2 [.fr ii])) (n01:Nat.beq b0 b1=false) (n02:Nat.beq b0 b2=false) (n12:Nat.beq b1 b2=false) :
  cT P X.Γ η f (l.map F.toD++[.cl cl [.ptr b0 v0 0,.ptr b1 v1 0,.ptr b2 v2 0]]) (.tp []) [b0,b1,b2] [(b0,.va v0 t0 [.fr g]),(b1,.va v1 t1 (S'.map .fr)),(b2,.va v2 t2 [.fr ii])]:=by
 have sym:∀{a b:Nat},Nat.beq a b=false→Nat.beq b a=false:=fun {a b} h=>by rw[←Bool.not_eq_true];intro e;rw[Nat.eq_of_beq_eq_true e,Nat.beq_refl]at h;cases h
 have m01:=sym n01;have m02:=sym n02;have m12:=sym n12;have hlk:∀{x y z:B}{i:Nat}{u:B},lk [(b0,x),(b1,y),(b2,z)] i=some u→(i=b0∧u=x)∨(i=b1∧u=y)∨(i=b2∧u=z):=by
  intro x y z i u h;simp only[lk]at h
  cases e1:Nat.beq b0 i with
  |true=>rw[e1]at h;cases h;exact .inl ⟨(Nat.eq_of_beq_eq_true e1).symm,rfl⟩
  |false=>
   rw[e1]at h
   cases e2:Nat.beq b1 i with
   |true=>rw[e2]at h;cases h;exact .inr (.inl ⟨(Nat.eq_of_beq_eq_true e2).symm,rfl⟩)
   |false=>
    rw[e2]at h
    cases e3:Nat.beq b2 i with
    |true=>rw[e3]at h;cases h;exact .inr (.inr ⟨(Nat.eq_of_beq_eq_true e3).symm,rfl⟩)
    |false=>rw[e3]at h;cases h
 have l0:∀{x y z:B},lk [(b0,x),(b1,y),(b2,z)] b0=some x:=by intro x y z;simp[lk]
 have l1:∀{x y z:B},lk [(b0,x),(b1,y),(b2,z)] b1=some y:=by intro x y z;simp[lk,n01]
 have l2:∀{x y z:B},lk [(b0,x),(b1,y),(b2,z)] b2=some z:=by intro x y z;simp[lk,n02,n12]
 have ho:bL [(b0,v0),(b1,v1),(b2,v2)]=true:=by simp[bL,m01,m02,m12]
 have p0:cc [(b0,v0),(b1,v1),(b2,v2)] b0 v0 0=some 0:=by simp[cc]
 have p1:cc [(b0,v0),(b1,v1),(b2,v2)] b1 v1 0=some 1:=by simp[cc,m01]
 have p2:cc [(b0,v0),(b1,v1),(b2,v2)] b2 v2 0=some 2:=by simp[cc,m02,m12]
 have hren:∀(Y:List F),cG [(b0,v0),(b1,v1),(b2,v2)] [] [(b0,.va v0 t0 [.fr g]),(b1,.va v1 t1 (Y.map .fr)),(b2,.va v2 t2 [.fr ii])] [(b0,v0),(b1,v1),(b2,v2)] 0=some [(0,.va 0 t0 [.fr g]),(1,.va 0 t1 (Y.map .fr)),(2,.va 0 t2 [.fr ii])]:=fun Y=>by
  simp only[cG,l0,l1,l2,B.ver,Nat.beq_refl,cond_true,ez,aO,bj,kk]
 have hrd:aO [(b0,v0),(b1,v1),(b2,v2)] [.cl cl [.ptr b0 v0 0,.ptr b1 v1 0,.ptr b2 v2 0]]=some [.cl cl [.ptr 0 0 0,.ptr 1 0 0,.ptr 2 0 0]]:=by
  simp only[aO,bj,p0,p1,p2]
 have hra:∀(a b a' b':List D),aO [(b0,v0),(b1,v1),(b2,v2)] a=some a'→aO [(b0,v0),(b1,v1),(b2,v2)] b=some b'→aO [(b0,v0),(b1,v1),(b2,v2)] (a++b)=some (a'++b'):=by
  intro a
  induction a with
  |nil=>intro b a' b' ha hb;simp only[aO]at ha;cases ha;exact hb
  |cons d a ih=>
   intro b a' b' ha hb;simp only[aO]at ha
   split at ha
   ·rename_i d' l' hd hl
    cases ha;simp only[List.cons_append,aO,hd,ih b _ _ hl hb]
   ·cases ha
 refine jk hX hf (x:=[D.ptr b0 v0 0,D.ptr b1 v1 0,D.ptr b2 v2 0]) (x0:=[D.ptr 0 0 0,D.ptr 1 0 0,D.ptr 2 0 0]) (l:=l.map F.toD++[D.cl cl [D.ptr b0 v0 0,D.ptr b1 v1 0,D.ptr b2 v2 0]]) (l0:=l.map F.toD++[D.cl cl [D.ptr 0 0 0,D.ptr 1 0 0,D.ptr 2 0 0]])
  (m0:=[(b0,v0),(b1,v1),(b2,v2)]) (μ:=[(b0,v0),(b1,v1),(b2,v2)]) (hb:=[(b0,.va v0 t0 [.fr g]),(b1,.va v1 t1 (S.map .fr)),(b2,.va v2 t2 [.fr ii])]) (h0:=[(0,.va 0 t0 [.fr g]),(1,.va 0 t1 (S.map .fr)),(2,.va 0 t2 [.fr ii])]) (d:=D.tp []) (d':=D.tp [])
  (ds':=(l.map F.toD++[D.cl cl [D.ptr 0 0 0,D.ptr 1 0 0,D.ptr 2 0 0]])++[D.ptr 0 0 0,D.ptr 1 0 0,D.ptr 2 0 0]) (h'':=[(0,.va 0 t0 [.fr g]),(1,.va 0 t1 (S'.map .fr)),(2,.va 0 t2 [.fr ii])])
  ⟨ho,ho,?_,?_,?_,?_,?_,?_⟩ (hren S) ?_ ?_ ?_ ?_ ?_ (hren S') hrun
 ·intro i x h;rcases hlk h with⟨rfl,rfl⟩|⟨rfl,rfl⟩|⟨rfl,rfl⟩
  ·exact⟨h0,by simp⟩
  ·exact⟨h1,by simp⟩
  ·exact⟨h2,by simp⟩
 ·intro i u h;simp only[List.mem_cons,List.not_mem_nil,or_false,Prod.mk.injEq]at h;rcases h with⟨rfl,rfl⟩|⟨rfl,rfl⟩|⟨rfl,rfl⟩
  ·exact⟨_,l0⟩
  ·exact⟨_,l1⟩
  ·exact⟨_,l2⟩
 ·intro i x h;rcases hlk h with⟨rfl,rfl⟩|⟨rfl,rfl⟩|⟨rfl,rfl⟩<;>simp
 ·intro i x h;rcases hlk h with⟨rfl,rfl⟩|⟨rfl,rfl⟩|⟨rfl,rfl⟩
  ·exact⟨rfl,.inl ⟨0,rfl⟩⟩
  ·exact⟨rfl,.inl ⟨1,rfl⟩⟩
  ·exact⟨rfl,.inl ⟨2,rfl⟩⟩
 ·intro i x y h hy;rcases hlk h with⟨rfl,rfl⟩|⟨rfl,rfl⟩|⟨rfl,rfl⟩
  ·rw[h0]at hy;cases hy;exact Nat.le_refl _
  ·rw[h1]at hy;cases hy;exact Nat.le_refl _
  ·rw[h2]at hy;cases hy;exact Nat.le_refl _
 ·intro i j u h;have hl:∀(a:List D) (n:Nat) (x0 x1 x2:D),a.length=n→(a++[x0,x1,x2])[n]?=some x0∧(a++[x0,x1,x2])[n+1]?=some x1∧(a++[x0,x1,x2])[n+2]?=some x2:=by
   intro a n x0 x1 x2 e;subst e;refine⟨?_,?_,?_⟩
   ·rw[List.getElem?_append_right (by omega),Nat.sub_self];rfl
   ·rw[List.getElem?_append_right (by omega),Nat.add_sub_cancel_left];rfl
   ·rw[List.getElem?_append_right (by omega),Nat.add_sub_cancel_left];rfl
  match i,h with
  |0,h=>cases h;exact .inr (.inl ⟨l.length+1,0,(hl _ _ _ _ _ (by simp)).1,(hl _ _ _ _ _ (by simp)).1⟩)
  |1,h=>cases h;exact .inr (.inl ⟨l.length+1+1,0,(hl _ _ _ _ _ (by simp)).2.1,(hl _ _ _ _ _ (by simp)).2.1⟩)
  |2,h=>cases h;exact .inr (.inl ⟨l.length+1+2,0,(hl _ _ _ _ _ (by simp)).2.2,(hl _ _ _ _ _ (by simp)).2.2⟩)
 ·exact hra _ _ _ _ (dR _ l) hrd
 ·simp only[aO,bj,p0,p1,p2]
 ·intro η' c O w hη hpw;obtain⟨u0,q0⟩:=Bu hpw ((hη b0 (by simp)).trans h0);obtain⟨u1,q1⟩:=Bu hpw ((hη b1 (by simp)).trans h1);obtain⟨u2,q2⟩:=Bu hpw ((hη b2 (by simp)).trans h2);exact⟨[u0,u1,u2],by unfold D.ah;exact⟨_,_,rfl,q0,by unfold D.ah;exact⟨_,_,rfl,q1,by unfold D.ah;exact⟨_,_,rfl,q2,by unfold D.ah;rfl⟩⟩⟩⟩
 ·simpa using hN
 ·simp only[bj,aO]
end Go.Km
end
section
namespace Go.Km
open Go Go.Vc Go.Proofs Go.aa Go.Proofs.YtpbichnnflabdaaGreatDoor
set_option maxRecDepth 100000
set_option maxHeartbeats 0
abbrev Mu(n:Int)(W:Nat→Int)(l:Int):List D:=[.fr (inF n),.fr (.vl (.int .u64 (W 0))),.fr (.vl (.int .u64 (W 1))),.fr (.vl (.int .u64 (W 2))),.fr (.vl (.int .u64 (W 3))),.fr (.vl (.int .u64 (W 4))),.fr (.vl (.int .u64 (W 5))),.fr (.vl (.int .u64 (W 6))),.fr (.vl (.int .u64 (W 7))),.fr (.vl (.int .u64 (W 8))),.fr (.vl (.int .u64 (W 9))),.fr (.vl (.int .u64 (W 10))),.fr (.vl (.int .u64 (W 11))),.fr (.vl (.int .u64 (W 12))),.fr (.vl (.int .u64 (W 13))),.fr (.vl (.int .u64 (W 14))),.fr (.vl (.int .u64 (W 15))),.fr (.vl (.int .u64 (W 16))),.fr (.vl (.int .u64 (W 17))),.fr (.vl (.int .u64 (W 18))),.fr (.vl (.int .u64 (W 19))),.fr (.vl (.int .u64 (W 20))),.fr (.vl (.int .u64 (W 21))),.fr (.vl (.int .u64 (W 22))),.fr (.vl (.int .u64 (W 23))),.fr (.vl (.int .u64 (W 24))),.fr (.vl (.int .u64 (W 25))),.fr (.vl (.int .u64 (W 26))),.fr (.vl (.int .u64 (W 27))),.fr (.vl (.int .u64 (W 28))),.fr (.vl (.int .u64 (W 29))),.fr (.vl (.int .u64 (W 30))),.fr (.vl (.int .u64 (W 31))),.fr (.vl (.int .u64 (W 32))),.fr (.vl (.int .u64 (W 33))),.fr (.vl (.int .u64 (W 34))),.fr (.vl (.int .u64 (W 35))),.fr (.vl (.int .u64 (W 36))),.fr (.vl (.int .u64 (W 37))),.fr (.vl (.int .u64 (W 38))),.fr (.vl (.int .u64 (W 39))),.fr (.vl (.int .u64 (W 40))),.fr (.vl (.int .u64 (W 41))),.fr (.vl (.int .u64 (W 42))),.fr (.vl (.int .u64 (W 43))),.fr (.vl (.int .u64 (W 44))),.fr (.vl (.int .u64 (W 45))),.fr (.vl (.int .u64 (W 46))),.fr (.vl (.int .u64 (W 47))),.fr (.vl (.int .u64 (W 48))),.fr (.vl (.int .u64 (W 49))),.fr (.vl (.int .u64 (W 50))),.fr (.vl (.int .u64 (W 51))),.fr (.vl (.int .u64 (W 52))),.fr (.vl (.int .u64 (W 53))),.fr (.vl (.int .u64 (W 54))),.fr (.vl (.int .u64 (W 55))),.fr (.vl (.int .u64 (W 56))),.fr (.vl (.int .u64 (W 57))),.fr (.vl (.int .u64 (W 58))),.fr (.vl (.int .u64 (W 59))),.fr (.vl (.int .u64 (W 60))),.fr (.vl (.int .u64 (W 61))),.fr (.vl (.int .u64 (W 62))),.fr (.vl (.int .u64 (W 63))),.fr (.vl (.int .u64 l))]
theorem Kg(n:Int)(W:Nat→Int)(l:Int){i e:Nat}(h:i<64)(he:e=i+1):(Mu n W l)[e]?=some (.fr (.vl (.int .u64 (W i)))):=by
 subst he;show(fY W++[.fr (.vl (.int .u64 l))])[i]?=_
 rw[List.getElem?_append_left (by simpa using h)];have:=mg W h;rw[Int.toNat_natCast,Nat.zero_add,Nat.mul_one]at this;exact this
theorem JF(n:Int)(W:Nat→Int)(l:Int){i e:Nat}(h:i<64)(he:e=i+1)(v:Int):setAt (Mu n W l) e [.fr (.vl (.int .u64 v))]=Mu n (ef W i v) l:=by
 subst he;rw[lJ _ _ _ (by simp;omega)];have:=vC W h v;rw[Int.toNat_natCast,Nat.zero_add,Nat.mul_one,lJ _ _ _ (by simpa using h)]at this;show D.fr (inF n)::(fY W++[D.fr (.vl (.int .u64 l))]).set i (D.fr (.vl (.int .u64 v)))=D.fr (inF n)::(fY (ef W i v)++[.fr (.vl (.int .u64 l))])
 rw[List.set_append_left _ _ (by simpa using h),this]
theorem lR{W:Nat→Int}{i:Nat}{v:Int}(h:W i=v):ef W i v=W:=by
 funext j
 unfold ef
 by_cases e:j=i
 ·subst e;rw[if_pos rfl,h]
 ·rw[if_neg e]
theorem ve(W:Nat→Int)(i:Nat)(u v:Int):ef (ef W i u) i v=ef W i v:=by
 funext j
 unfold ef
 by_cases e:j=i
 ·simp[e]
 ·simp[e]
theorem C7(W:Nat→Int)(i:Nat)(v:Int):ef W i v i=v:=by simp[ef]
def gi(g:List Dfn)(p:Nat→Bool)(L:List ByteArray)(j:Nat):Bool:=p j||L.any fun s=>decide (bx g s=some j)
abbrev uB(g:List Dfn)(fl:List Fl)(ns:List Nod)(k:Int):List ByteArray:=(aA ns ns.length [k]).eN g fl false
abbrev clL(b0 v0 b1 v1 b2 v2:Nat):D:=.cl 106 [.ptr b0 v0 0,.ptr b1 v1 0,.ptr b2 v2 0]
theorem tb(g:List Dfn)(p:Nat→Bool):gi g p []=p:=by funext j;simp[gi]
theorem yP(g:List Dfn)(p:Nat→Bool)(L M:List ByteArray):gi g (gi g p L) M=gi g p (L++M):=by funext j;simp[gi,Bool.or_assoc]
theorem yB(g:List Dfn)(p:Nat→Bool)(s:ByteArray):gi g p [s]=fun j=>p j||decide (bx g s=some j):=by funext j;simp[gi]
theorem nD(g:List Dfn)(fl:List Fl){ns:List Nod}(hk:KOk ns)(s:Bool){x:Nat}(hx:x<ns.length)(ks:List Int):(aA ns ns.length ((x:Int)::ks)).eN g fl s=uB g fl ns (x:Int)++(if(s && !((aH g fl ns).getD x .bot).zero)=true then[]else(aA ns ns.length ks).eN g fl s):=by
 have h1:=bT (ns:=ns) hk.ae (k:=(x:Int)) (by omega) (by omega);have h2:=po g fl hk x hx;rw[aM _ _ (by omega),uB,h2,h1];simp only[Fo.app,Fo.eN,Fo.cK,Bool.false_and,Bool.false_eq_true,if_false,List.append_nil];rfl
theorem I1(g:List Dfn)(fl:List Fl){ns:List Nod}(hk:KOk ns){x:Nat}(hx:x<ns.length):uB g fl ns (x:Int)=if ns[x].kind=3 then[ns[x].text]else if ns[x].kind=6∧ns[x].max=0 then[]else(aA ns ns.length ns[x].kids).eN g fl (decide (ns[x].kind=4)):=by
 have h1:=bT (ns:=ns) hk.ae (k:=(x:Int)) (by omega) (by omega);have hd:dat ns (x:Int)={ ns[x]with kids:=[] }:=by simp[dat,List.getD_eq_getElem?_getD,hx]
 rw[uB,h1,←aF (List.getElem?_eq_getElem hx),hd];simp only[Fo.eN,Bool.false_and,Bool.false_eq_true,if_false,List.append_nil]
def KF(g:List Dfn)(t:Tre)(fl X:List Fl)(i:Nat)(k:Nat):Prop:=∀(n lo:Int) (p:Nat→Bool) (W:Nat→Int),W i=wdI p→∀(η:Env) (b0 v0 b1 v1 b2 v2:Nat),η b0=some (.va v0 24 [.fr (.sl (g.map rD))])→η b1=some (.va v1 108 ((tG n W lo).map .fr))→η b2=some (.va v2 3 [.fr (inF (i:Int))])→Nat.beq b0 b1=false→Nat.beq b0 b2=false→Nat.beq b1 b2=false→
  cT Tryz.prog X1.Γ η 105 ([aE t,iE X,inF (k:Int)].map F.toD++[clL b0 v0 b1 v1 b2 v2]) (.tp []) [b0,b1,b2] [(b0,.va v0 24 [.fr (.sl (g.map rD))]),(b1,.va v1 108 ((tG n (ef W i (wdI (gi g p (uB g fl t.nodes (k:Int))))) lo).map .fr)),(b2,.va v2 3 [.fr (inF (i:Int))])]
theorem HG{g:List Dfn}{t:Tre}{fl X:List Fl}{i:Nat}(hXX:X=aH g fl t.nodes)(hg:g.length≤64)(hw:t.wf)(hR:av t)(hi:i<64):∀k:Nat,k<t.nodes.length→KF g t fl X i k:=by
 intro k
 induction k using Nat.strongRecOn with
 |ind k ih=>
  intro hk n lo p W hW η b0 v0 b1 v1 b2 v2 h0 h1 h2 n01 n02 n12;have hX:=rm [106] [105];refine GA hX rfl rfl (fun vs=>?_) h0 h1 h2 n01 n02 n12;clear h0 h1 h2 n01 n02 n12;have hlen:=hw.len;simp only[bY]at hlen;have hkk:=hR.kok;have hat:=I1 g fl hkk hk;have hfit:=hR.fits k t.nodes[k] (List.getElem?_eq_getElem hk);have hko:=hkk k t.nodes[k] (List.getElem?_eq_getElem hk);obtain⟨kf1,kf2,kf3⟩:=ml hfit;have hXl:X.length=t.nodes.length:=by rw[hXX,bG]
  have hkl:=(hw.nodes _ (List.getElem_mem hk)).kids.1;simp only[dJ]at hkl;obtain⟨L,hL⟩:=exEq (uB g fl t.nodes (k:Int));rw[←hL]at hat ⊢
  by_cases k3:t.nodes[k].kind=3
  ·rw[if_pos k3]at hat;subst hat
   cases hf:bx g t.nodes[k].text with
   |none=>
    have hfn:oe g t.nodes[k].text=-1:=by rw[oe,hf]
    have hS:ef W i (wdI (gi g p [t.nodes[k].text]))=W:=lR (by rw[hW,yB];simp[hf]);rw[hS];apply Sn.go hX;repeat' first|exact k9|refine k2 ?_|apply kA|apply kI;intro hc|apply kL;intro hl|(apply Sn.go hX;conv=>whnf)|((simp only[hfn])<;>conv=>whnf)|refine k8 ?_|fail
    exact cR.i rfl rfl
   |some j=>
    have hj:=(fv hf).1;have hfn:oe g t.nodes[k].text=(j:Int):=by rw[oe,hf]
    have hv:IntKind.u64.wrap ((BitVec.ofInt IntKind.u64.bits (W i)|||BitVec.ofInt IntKind.u64.bits (IntKind.u64.wrap (1*2^(min ((j:Nat):Int).toNat IntKind.u64.bits)))).toNat:Int)=wdI (gi g p [t.nodes[k].text]):=by
     rw[hW,BP (by omega),Ds,yB];refine km fun b hb=>?_
     rw[hf]
     congr 1
     exact decide_eq_decide.2 ⟨fun e=>by rw[e],fun e=>by cases e;rfl⟩
    apply Sn.go hX;repeat' first|exact k9|refine k1 ?_|apply kA|apply kI;intro hc|apply kL;intro hl|((apply ExK.m;exact⟨Kg n W lo hi (by simp;omega)⟩)<;>conv=>whnf)|((apply FoA.m;exact⟨JF n W lo hi (by simp;omega) _⟩)<;>conv=>whnf)|refine k5 ?_|(apply Sn.go hX;conv=>whnf)|((simp only[hfn])<;>conv=>whnf)|refine k8 ?_|fail
    ·rw[hv];exact cR.i rfl rfl
  rw[if_neg k3]at hat
  by_cases k6:t.nodes[k].kind=6
  ·have hk1:t.nodes[k].kids.length=1:=by have:=kf2 (by omega);omega
   obtain⟨q,hq⟩:∃q:Nat,t.nodes[k].kids=[(q:Int)]:=by
    obtain⟨x,hx1⟩:=List.length_eq_one_iff.1 hk1;refine⟨x.toNat,?_⟩;have:=hko x (by rw[hx1];simp);rw[hx1]
    congr 1
    omega
   have hql:=hko (q:Int) (by rw[hq];simp);have hq0:∀h:0<t.nodes[k].kids.length,t.nodes[k].kids[0]'h=(q:Int):=fun h=>by simp only[hq];rfl
   by_cases hm:t.nodes[k].max=0
   ·rw[if_pos ⟨k6,hm⟩]at hat;subst hat;have hS:ef W i (wdI (gi g p []))=W:=lR (by rw[hW,tb]);rw[hS];apply Sn.go hX;repeat' first|exact k9|refine k2 ?_|apply kA|apply kI;intro hc|(apply Sn.go hX;conv=>whnf)|refine k8 ?_|apply kL;intro hl
    exact cR.i rfl rfl
   ·rw[if_neg (fun h=>hm h.2),hq,nD g fl hkk _ (by omega),decide_eq_false (show ¬t.nodes[k].kind=4 by omega),ay]at hat;simp only[Bool.false_and,Bool.false_eq_true,if_false,Fo.eN,List.append_nil]at hat;rw[hat];apply Sn.go hX;repeat' first|exact k9|refine k2 ?_|apply kA|apply kI;intro hc|apply kL;intro hl|(apply Sn.go hX;conv=>whnf)|((simp only[hq0])<;>conv=>whnf)|((refine dg.i (ih q (by omega) (by omega) n lo p W hW _ _ _ _ _ _ _ rfl rfl rfl rfl rfl rfl) ?_)<;>conv=>whnf)|refine k8 ?_|fail
    exact cR.i rfl rfl
  rw[if_neg (fun h=>k6 h.1)]at hat
  by_cases k4:t.nodes[k].kind=4
  ·rw[decide_eq_true k4]at hat;apply Sn.go hX;repeat' first|exact k9|refine k2 ?_|apply kA|apply kI;intro hc|(apply Sn.go hX;conv=>whnf)|refine k8 ?_|apply kL;intro hl
   have hS0:ef W i (wdI (gi g p []))=W:=lR (by rw[hW,tb]);apply kCt [1,3,4,42,43,44] [];conv=>whnf
   refine Lp.ind (fun x:Nat×List ByteArray=>t.nodes[k].kids.length-x.1) (fun x=>x.1≤t.nodes[k].kids.length∧L=x.2++(aA t.nodes t.nodes.length (t.nodes[k].kids.drop x.1)).eN g fl true) (fun x=>[(44,InD x.1)]) (fun x=>[(1,.va 0 108 ((tG n (ef W i (wdI (gi g p x.2))) lo).map .fr))]) (fun _=>_) (0,[]) ⟨Nat.zero_le _,hat⟩ rfl rfl (by dsimp only;rw[hS0];rfl) ?_
   rintro G ⟨j,M⟩ ihl ⟨hj,hT⟩
   dsimp only at hj hT ihl ⊢;obtain⟨p2,hp2⟩:=exEq (gi g p M);obtain⟨W2,hW2⟩:=exEq (ef W i (wdI p2));have hW2i:W2 i=wdI p2:=by rw[hW2,C7]
   have hnx:∀N,ef W2 i (wdI (gi g p2 N))=ef W i (wdI (gi g p (M++N))):=fun N=>by rw[hW2,ve,hp2,yP]
   rw[←hp2,←hW2]
   by_cases hy:j<t.nodes[k].kids.length
   ·obtain⟨q,hq⟩:∃q:Nat,t.nodes[k].kids[j]=q:=⟨t.nodes[k].kids[j].toNat,by have:=hko _ (List.getElem_mem hy);omega⟩
    have hqi:∀h:j<t.nodes[k].kids.length,t.nodes[k].kids[j]'h=(q:Int):=fun _=>hq
    have hql:=hko _ (List.getElem_mem hy);rw[hq]at hql;have hxq:∀h:q<X.length,X[q]'h=X.getD q .bot:=fun h=>by simp[List.getD_eq_getElem?_getD,h]
    rw[List.drop_eq_getElem_cons hy,hq,nD g fl hkk _ (by omega),←hXX]at hT;apply Sn.go hX;repeat' first|exact k9|refine k2 ?_|apply kA|apply kI;intro hc|apply kL;intro hl|(apply Sn.go hX;conv=>whnf)|((simp only[hqi])<;>conv=>whnf)|((refine dg.i (ih q (by omega) (by omega) n lo p2 W2 hW2i _ _ _ _ _ _ _ rfl rfl rfl rfl rfl rfl) ?_)<;>conv=>whnf)|refine k8 ?_|fail
    ·have hz:=hc;rw[hxq]at hz;rw[hz]at hT;simp only[Bool.not_true,Bool.and_false,Bool.false_eq_true,if_false]at hT;apply kCt [1,3,4,42,43,44] [];conv=>whnf
     exact ihl (j+1,M++uB g fl t.nodes (q:Int)) _ _ _ (by dsimp only;omega) ⟨by dsimp only;omega,by rw[hT,List.append_assoc]⟩ rfl rfl (congrArg (fun z=>jv [(1,B.va 0 108 ((tG n z lo).map .fr))] G.h) (hnx _))
    ·have hz:=hc;rw[hxq]at hz;rw[hz]at hT;simp only[Bool.not_false,Bool.and_true,if_true,List.append_nil]at hT;subst hT;rw[hnx];exact cR.i rfl rfl
   ·obtain rfl:j=t.nodes[k].kids.length:=by omega
    rw[List.drop_length,ay,Fo.eN,List.append_nil]at hT;subst hT;rw[←hp2,←hW2];apply Sn.go hX;repeat' first|exact k9|refine k2 ?_|apply kA|apply kI;intro hc|(apply Sn.go hX;conv=>whnf)|refine k8 ?_|apply kL;intro hl
    exact cR.i rfl rfl
  ·rw[decide_eq_false k4]at hat;apply Sn.go hX;repeat' first|exact k9|refine k2 ?_|apply kA|apply kI;intro hc|(apply Sn.go hX;conv=>whnf)|refine k8 ?_|apply kL;intro hl
   have hS0:ef W i (wdI (gi g p []))=W:=lR (by rw[hW,tb]);apply kCt [1,3,4,21,22,23] [];conv=>whnf
   refine Lp.ind (fun x:Nat×List ByteArray=>t.nodes[k].kids.length-x.1) (fun x=>x.1≤t.nodes[k].kids.length∧L=x.2++(aA t.nodes t.nodes.length (t.nodes[k].kids.drop x.1)).eN g fl false) (fun x=>[(23,InD x.1)]) (fun x=>[(1,.va 0 108 ((tG n (ef W i (wdI (gi g p x.2))) lo).map .fr))]) (fun _=>_) (0,[]) ⟨Nat.zero_le _,hat⟩ rfl rfl (by dsimp only;rw[hS0];rfl) ?_
   rintro G ⟨j,M⟩ ihl ⟨hj,hT⟩
   dsimp only at hj hT ihl ⊢;obtain⟨p2,hp2⟩:=exEq (gi g p M);obtain⟨W2,hW2⟩:=exEq (ef W i (wdI p2));have hW2i:W2 i=wdI p2:=by rw[hW2,C7]
   have hnx:∀N,ef W2 i (wdI (gi g p2 N))=ef W i (wdI (gi g p (M++N))):=fun N=>by rw[hW2,ve,hp2,yP]
   rw[←hp2,←hW2]
   by_cases hy:j<t.nodes[k].kids.length
   ·obtain⟨q,hq⟩:∃q:Nat,t.nodes[k].kids[j]=q:=⟨t.nodes[k].kids[j].toNat,by have:=hko _ (List.getElem_mem hy);omega⟩
    have hqi:∀h:j<t.nodes[k].kids.length,t.nodes[k].kids[j]'h=(q:Int):=fun _=>hq
    have hql:=hko _ (List.getElem_mem hy);rw[hq]at hql;have hxq:∀h:q<X.length,X[q]'h=X.getD q .bot:=fun h=>by simp[List.getD_eq_getElem?_getD,h]
    rw[List.drop_eq_getElem_cons hy,hq,nD g fl hkk _ (by omega),←hXX]at hT;apply Sn.go hX;repeat' first|exact k9|refine k2 ?_|apply kA|apply kI;intro hc|apply kL;intro hl|(apply Sn.go hX;conv=>whnf)|((simp only[hqi])<;>conv=>whnf)|((refine dg.i (ih q (by omega) (by omega) n lo p2 W2 hW2i _ _ _ _ _ _ _ rfl rfl rfl rfl rfl rfl) ?_)<;>conv=>whnf)|refine k8 ?_|fail
    simp only[Bool.false_and,Bool.false_eq_true,if_false]at hT;apply kCt [1,3,4,21,22,23] [];conv=>whnf
    exact ihl (j+1,M++uB g fl t.nodes (q:Int)) _ _ _ (by dsimp only;omega) ⟨by dsimp only;omega,by rw[hT,List.append_assoc]⟩ rfl rfl (congrArg (fun z=>jv [(1,B.va 0 108 ((tG n z lo).map .fr))] G.h) (hnx _))
   ·obtain rfl:j=t.nodes[k].kids.length:=by omega
    rw[List.drop_length,ay,Fo.eN,List.append_nil]at hT;subst hT;rw[←hp2,←hW2];apply Sn.go hX;repeat' first|exact k9|refine k2 ?_|apply kA|apply kI;intro hc|(apply Sn.go hX;conv=>whnf)|refine k8 ?_|apply kL;intro hl
    exact cR.i rfl rfl
end Go.Km
end
section
namespace Go.aa
open Go Go.Km
def gX(g:List Dfn)(i j:Nat):Bool:=decide (cz g=0)&&decide (j∈gB g i)
def jO(g:List Dfn)(i:Nat):Bool:=decide (cz g=0)&&fU g i
def ql(g:List Dfn):Int:=if cz g=0 then(g.length:Int)else 0
theorem mK(p:Nat→Bool):∀n s,du p n s=((List.range' s n).filter p).head?
 |0,s=>rfl
 |n+1,s=>by
  rw[du,List.range'_succ]
  by_cases h:p s=true
  ·rw[if_pos h,List.filter_cons_of_pos h];rfl
  ·rw[if_neg h,List.filter_cons_of_neg h,mK p n (s+1)]
theorem rn(p:Nat→Bool):(zE p).head?=(du p 64 0).map Int.ofNat:=by
 rw[mK,zE,List.range_eq_range',List.head?_map]
theorem su{p q:Nat→Bool}{n N:Nat}(hn:n≤N)(h:∀j<N,q j=(decide (j<n)&&p j)):du q N 0=du p n 0:=by
 cases e:du p n 0 with
 |none=>
  have h1:=fV.1 e;refine fV.2 fun j _ hj=>?_
  rw[h j (by omega)]
  by_cases hjn:j<n
  ·rw[h1 j (by omega) (by omega),Bool.and_false]
  ·rw[decide_eq_false hjn,Bool.false_and]
 |some k=>
  obtain⟨_,h2,h3,h4⟩:=ly e;have hqk:q k=true:=by rw[h k (by omega),decide_eq_true (by omega),h3];rfl
  cases e2:du q N 0 with
  |none=>
   have:=fV.1 e2 k (by omega) (by omega);rw[hqk]at this
   cases this
  |some k2=>
   obtain⟨_,g2,g3,g4⟩:=ly e2;have hk2:k2<n∧p k2=true:=by
    rw[h k2 (by omega),Bool.and_eq_true,decide_eq_true_iff]at g3;exact g3
   congr 1
   by_cases e3:k2<k
   ·rw[h4 k2 (by omega) e3]at hk2
    cases hk2.2
   ·by_cases e4:k<k2
    ·rw[g4 k (by omega) e4]at hqk
     cases hqk
    ·omega
theorem E5{g:List Dfn}(hm:cz g=0)(h64:g.length≤64)(a b:Nat):yN (gX g) a b↔b∈gB g a:=by
 unfold yN gX;rw[decide_eq_true hm,Bool.true_and,decide_eq_true_iff];refine⟨fun h=>h.2.2,fun h=>⟨?_,?_,h⟩⟩
 ·by_cases e:a<g.length
  ·omega
  ·rw[gB,List.getElem?_eq_none (by omega)]at h
   cases h
 ·have:=Cj g a b h;omega
theorem F5{g:List Dfn}(hm:cz g=0)(h64:g.length≤64)(i:Nat):la (gX g) i=(decide (i<g.length)&&v9 g i):=by
 have hr:yN (gX g)=fun a b=>b∈gB g a:=by funext a b;exact propext (E5 hm h64 a b)
 rw[Bool.eq_iff_iff,la,@decide_eq_true_iff _ (Classical.propDecidable _),hr,Bool.and_eq_true,decide_eq_true_iff]
 by_cases e:i<g.length
 ·rw[vS e];exact⟨fun h=>⟨e,h⟩,fun h=>h.2⟩
 ·refine⟨fun h=>?_,fun h=>absurd h.1 e⟩
  exfalso
  have:∀c,¬kC (fun a b=>b∈gB g a) i c:=by
   intro c h
   induction h with
   |one h1=>rw[gB,List.getElem?_eq_none (by omega)]at h1;cases h1
   |more _ _ ih=>exact ih
  exact this i h
theorem AM{g:List Dfn}(hm:cz g=0)(h64:g.length≤64):(zE (la (gX g))).head?=(du (v9 g) g.length 0).map Int.ofNat:=by
 rw[rn,su h64 fun j _=>F5 hm h64 j]
theorem AY{g:List Dfn}(hm:cz g=0)(h64:g.length≤64):(zE (jO g)).head?=(du (fU g) g.length 0).map Int.ofNat:=by
 rw[rn,su h64 fun j _=>?_];unfold jO;rw[decide_eq_true hm,Bool.true_and]
 by_cases e:j<g.length
 ·simp[e]
 ·simp[e,fU]
end Go.aa
namespace Go.Km
open Go Go.Vc Go.Proofs Go.aa Go.Proofs.YtpbichnnflabdaaGreatDoor
set_option maxRecDepth 100000
set_option maxHeartbeats 0
theorem E9{g:List Dfn}{i:Nat}(hi:i<g.length):gi g (fun _=>false) (uB g (bk g) g[i].body.nodes g[i].body.root)=fun j=>decide (j∈gB g i):=by
 funext j
 rw[gi,Bool.false_or,Bool.eq_iff_iff,List.any_eq_true,decide_eq_true_iff,gB,List.getElem?_eq_getElem hi];simp only[List.mem_filterMap,decide_eq_true_eq];rfl
def uh(g:List Dfn)(i j:Nat):Int:=if j<i then wdI (fun b=>decide (b∈gB g j))else 0
theorem Ew{g:List Dfn}{i:Nat}:ef (uh g i) i (wdI fun b=>decide (b∈gB g i))=uh g (i+1):=by
 funext j
 unfold ef uh
 by_cases e:j=i
 ·subst e;simp
 ·rw[if_neg e]
  by_cases h:j<i
  ·rw[if_pos h,if_pos (by omega)]
  ·rw[if_neg h,if_neg (by omega)]
instance(g:List Dfn):C 59 [cx g] (.tp [.ag (tG (ql g) (fun i=>wdI (gX g i)) (wdI (jO g))),inF (cz g)]) true (g.length≤1000∧∀d∈g,d.wf):=⟨fun⟨hn,hw⟩=>by
 have hpre:g.length≤1000∧∀d∈g,d.wf:=⟨hn,hw⟩
 have hX:=rm [] [105]
 by_cases hm:cz g=0
 ·have ok:=cE hm;have e1:(fun i=>wdI (gX g i))=fun i=>wdI (fun b=>decide (b∈gB g i)):=by funext i;unfold gX;simp[hm]
  have e2:jO g=fU g:=by funext i;unfold jO;simp[hm]
  have e3:ql g=(g.length:Int):=by rw[ql,if_pos hm]
  have e4:(eZ g).1=bk g:=by rw[eZ,if_pos hm]
  have e5:(eZ g).2=0:=by rw[eZ,if_pos hm]
  rw[e1,e2,e3,hm];refine fL hX rfl rfl ?_;repeat' first|exact k9|refine k2 ?_|apply kA|apply kI;intro hc|apply kL;intro hl|(apply Sn.go hX;conv=>whnf)|((simp only[e5])<;>conv=>whnf)|((simp only[e4])<;>conv=>whnf)|refine k8 ?_|fail
  clear e1 e2 e3 e4 e5;apply kCt [1,2,4,6,25,26,27] [];conv=>whnf
  refine Lp.ind (fun z:Nat=>g.length-z) (fun z=>z≤g.length) (fun z=>[(27,InD z)]) (fun z=>[(2,.va 0 108 ((tG (g.length:Int) (uh g z) (wdI fun j=>decide (j<z)&&fU g j)).map .fr))]) (fun _=>_) 0 (Nat.zero_le _) rfl rfl ?_ ?_
  ·have e0:wdI (fun j=>decide (j<0)&&fU g j)=0:=(km fun j _=>by simp).trans ma;rw[e0,List.length_map];rfl
  rintro G i ih hi
  obtain⟨W,hW⟩:=exEq (uh g i);obtain⟨lo,hlo⟩:=exEq (wdI (fun j=>decide (j<i)&&fU g j));rw[←hW,←hlo];have h64:=ok.len
  by_cases hx:i<g.length
  ·have hmem:=List.getElem_mem hx;have hwb:=(hw _ hmem).body;have hRt:=ok.right hmem;have hfl:=qp g;have hnp:(g.length≤1000∧fq g=false)∧(bk g).length=g.length∧g[i].body.wf∧av g[i].body∧sI g g[i].body.nodes:=⟨⟨hn,ok.H2⟩,hfl,hwb,hRt,ok.named _ hmem⟩
   obtain⟨q,hq⟩:∃q:Nat,g[i].body.root=q:=⟨g[i].body.root.toNat,by have:=hRt.root;omega⟩
   have hql:=hRt.root.2;rw[hq]at hql;have hXl:=bG g (bk g) g[i].body.nodes;have hep:g[i].body.wf∧av g[i].body∧(aH g (bk g) g[i].body.nodes).length=g[i].body.nodes.length:=⟨hwb,hRt,hXl⟩
   have hW0:W i=wdI (fun _=>false):=by rw[hW,uh,if_neg (by omega),ma]
   have hlp:tF (aH g (bk g) g[i].body.nodes) g[i].body.nodes=fU g i:=by rw[GW g _ hRt,fU,List.getElem?_eq_getElem hx]
   have hWn:ef W i (wdI (gi g (fun _=>false) (uB g (bk g) g[i].body.nodes g[i].body.root)))=uh g (i+1):=by rw[E9 hx,hW,Ew]
   have hlef:=HG (g:=g) (t:=g[i].body) (fl:=bk g) rfl h64 hwb hRt (show i<64 by omega) q (by omega);unfold KF at hlef;rw[←hq]at hlef;apply Sn.go hX;repeat' first|exact k9|refine k2 ?_|apply kA|apply kI;intro hc|(apply Sn.go hX;conv=>whnf)|((refine dg.i (hlef (g.length:Int) lo (fun _=>false) W hW0 _ _ _ _ _ _ _ rfl rfl rfl rfl rfl rfl) ?_)<;>conv=>whnf)|refine k8 ?_|apply kL;intro hl
   ·have hl:fU g i=true:=by rw[←hlp];exact hc
    have hlo2:IntKind.u64.wrap ((BitVec.ofInt IntKind.u64.bits lo|||BitVec.ofInt IntKind.u64.bits (IntKind.u64.wrap (1*2^(min ((i:Nat):Int).toNat IntKind.u64.bits)))).toNat:Int)=wdI (fun j=>decide (j<i+1)&&fU g j):=by
     rw[hlo,BP (by omega),Ds];refine km fun j hj=>?_
     by_cases e:j=i
     ·subst e;simp[hl]
     ·have h1:decide (j<i+1)=decide (j<i):=decide_eq_decide.2 (by omega);simp[e,h1]
    apply kCt [1,2,4,6,25,26,27] [];conv=>whnf
    refine ih (i+1) _ _ _ (by omega) (by omega) rfl rfl ?_;exact congrArg (fun z:(Nat→Int)×Int=>jv [(2,B.va 0 108 ((tG (g.length:Int) z.1 z.2).map .fr))] G.h) (Prod.ext hWn hlo2:(ef W i _,_)=(uh g (i+1),_))
   ·have hl:fU g i=false:=by rw[←hlp];exact hc
    have hlo2:lo=wdI (fun j=>decide (j<i+1)&&fU g j):=by
     rw[hlo];refine km fun j hj=>?_
     by_cases e:j=i
     ·subst e;simp[hl]
     ·have h1:decide (j<i+1)=decide (j<i):=decide_eq_decide.2 (by omega);simp[h1]
    apply kCt [1,2,4,6,25,26,27] [];conv=>whnf
    refine ih (i+1) _ _ _ (by omega) (by omega) rfl rfl ?_;exact congrArg (fun z:(Nat→Int)×Int=>jv [(2,B.va 0 108 ((tG (g.length:Int) z.1 z.2).map .fr))] G.h) (Prod.ext hWn hlo2:(ef W i _,_)=(uh g (i+1),_))
  ·obtain rfl:i=g.length:=by omega
   rw[hW,hlo];have e6:uh g g.length=fun i=>wdI (fun b=>decide (b∈gB g i)):=by
    funext j
    unfold uh
    by_cases h:j<g.length
    ·rw[if_pos h]
    ·rw[if_neg h,show(fun b=>decide (b∈gB g j))=fun _=>false from by
      funext b
      rw[gB,List.getElem?_eq_none (by omega)];simp,ma]
   have e7:(fun j=>decide (j<g.length)&&fU g j)=fU g:=by
    funext j
    by_cases h:j<g.length
    ·simp[h]
    ·simp[h,fU]
   rw[e6,e7];apply Sn.go hX;repeat' first|exact k9|refine k2 ?_|apply kA|apply kI;intro hc|(apply Sn.go hX;conv=>whnf)|refine k8 ?_|apply kL;intro hl
   exact aq.j rfl rfl
 ·have e1:(fun i=>wdI (gX g i))=fun _=>0:=by funext i;unfold gX;simp[hm,ma]
  have e2:wdI (jO g)=0:=by rw[show jO g=fun _=>false from by funext i;unfold jO;simp[hm],ma]
  have e3:ql g=0:=by rw[ql,if_neg hm]
  have e5:(eZ g).2=cz g:=by rw[eZ,if_neg hm]
  rw[e1,e2,e3];refine fL hX rfl rfl ?_;repeat' first|exact k9|refine k2 ?_|apply kA|apply kI;intro hc|apply kL;intro hl|(apply Sn.go hX;conv=>whnf)|((simp only[e5])<;>conv=>whnf)|refine k8 ?_|fail
  exact aq.j rfl rfl⟩
theorem xS{L:List Int}{o:Option Nat}(h:L.head?=o.map Int.ofNat)(h0:0<L.length):∃i:Nat,o=some i∧L[0]=(i:Int):=by
 cases o with
 |none=>
  cases L with
  |nil=>simp at h0
  |cons a L=>simp at h
 |some i=>
  cases L with
  |nil=>simp at h0
  |cons a L=>
   simp at h;exact⟨i,rfl,h⟩
theorem sP{L:List Int}{o:Option Nat}(h:L.head?=o.map Int.ofNat)(h0:¬0<L.length):o=none:=by
 cases L with
 |nil=>cases o with
  |none=>rfl
  |some i=>simp at h
 |cons a L=>simp at h0
theorem qN.i{P:Program}{Γ:Nat→Option (List F)}{f:Nat}{l:List F}{r:F}{b:Bool}{pre:Prop}{k:F×Bool→Prop}(h:KC P Γ f l r b pre)(hp:pre)(hk:k (r,b)):qN P Γ f l k:=⟨(r,b),h.h hp,hk⟩
instance(g:List Dfn):C 30 [cx g] (.tp [inF (iG g).1,inF (iG g).2]) true (g.length≤1000∧∀d∈g,d.wf):=⟨fun⟨hn,hw⟩=>by
 have hpre:g.length≤1000∧∀d∈g,d.wf:=⟨hn,hw⟩
 by_cases hm:cz g=0
 ·have h64:=(cE hm).len;have h1:=AM hm h64;have h2:=AY hm h64;refine kf rfl rfl ?_;repeat' first|exact k9|refine k2 ?_|apply kA|apply kI;intro hc|(apply Sn.go hX;conv=>whnf)|((refine qN.i (Lv (ql g) (gX g) (wdI (jO g))) trivial ?_)<;>conv=>whnf)|refine k8 ?_|apply kL;intro hl
  ·obtain⟨i,hi1,hi2⟩:=xS h1 (by omega);exact aq.j (by rw[iG,if_pos hm,hi1,hi2]) rfl
  ·obtain⟨i,hi1,hi2⟩:=xS h2 (by omega);exact aq.j (by rw[iG,if_pos hm,sP h1 (by omega),hi1,hi2]) rfl
  ·exact aq.j (by rw[iG,if_pos hm,sP h1 (by omega),sP h2 (by omega)]) rfl
 ·have hW:iG g=(0,cz g):=by rw[iG,if_neg hm]
  rw[hW];refine kf rfl rfl ?_;repeat' (first|exact k9|refine k2 ?_|apply kA|apply kI;intro hc|(apply Sn.go hX;conv=>whnf)|refine k8 ?_|apply kL;intro hl)⟩
instance(g:List Dfn):C 10 [cx g] (inF (bb g)) true (g.length≤1000∧∀d∈g,d.wf):=⟨fun h=>by
 refine kf rfl rfl ?_;repeat' first|exact k9|refine k2 ?_|apply kA|apply kI;intro hc|(apply Sn.go hX;conv=>whnf)|refine k8 ?_|apply kL;intro hl
 exact aq.n rfl rfl⟩
end Go.Km
end
section
namespace Go.aa
open Go Go.Sl
structure WA(ar:List Nod)(bh:List Int):Prop where
 ok:NOk 0 ar
 rng:∀x∈bh,0≤x∧x<ar.length
 cnt:∀i:Nat,i<ar.length→(az ar).count (i:Int)+bh.count (i:Int)=1
theorem WA.nil:WA [] []:=⟨fun j n h=>by simp at h,by simp,fun i h=>by simp at h⟩
theorem NOk.kok{ar:List Nod}(h:NOk 0 ar):KOk ar:=fun i n hi k hk=>by have:=(h i n hi).2 k hk;omega
theorem WA.II{ar:List Nod}{bh:List Int}(h:WA ar bh):∀k∈az ar,k<(ar.length:Int):=by
 intro k hk;obtain⟨n,hn,hkn⟩:=List.mem_flatMap.1 hk;obtain⟨i,hi⟩:=List.mem_iff_getElem?.1 hn;have h1:=(h.ok i n hi).2 k hkn;have:=(List.getElem?_eq_some_iff.1 hi).1;omega
theorem WA.perm{ar:List Nod}{a b:List Int}(h:WA ar a)(p:a.Perm b):WA ar b:=⟨h.ok,fun x hx=>h.rng x (p.mem_iff.2 hx),fun i hi=>by rw[←p.count_eq];exact h.cnt i hi⟩
theorem WA.snoc{ar:List Nod}{bh rest:List Int}{n:Nod}(h:WA ar bh)(hf:fits n n.kids.length=true)(hp:bh.Perm (n.kids++rest)):WA (ar++[n]) ((ar.length:Int)::rest):=by
 have hk:∀k∈n.kids,0≤k∧k<(ar.length:Int):=fun k hk=>h.rng k (hp.mem_iff.2 (List.mem_append_left _ hk))
 refine⟨NOk.app h.ok fun j m hj=>?_,fun x hx=>?_,fun i hi=>?_⟩
 ·cases j with
  |zero=>
   simp at hj;subst hj;exact⟨hf,fun k hkk=>by have:=hk k hkk;simp;omega⟩
  |succ j=>simp at hj
 ·rcases List.mem_cons.1 hx with rfl|hx
  ·simp;omega
  ·have:=h.rng x (hp.mem_iff.2 (List.mem_append_right _ hx));simp;omega
 ·rw[oC,List.count_append,List.count_cons]
  by_cases e:i<ar.length
  ·have h1:=h.cnt i e;rw[hp.count_eq,List.count_append]at h1;have h2:((ar.length:Int)==(i:Int))=false:=by simp;omega
   rw[h2];simp;omega
  ·have h0:i=ar.length:=by simp at hi;omega
   subst h0;have h1:(az ar).count (ar.length:Int)=0:=List.count_eq_zero.2 fun hm=>by have:=h.II _ hm;omega
   have h2:n.kids.count (ar.length:Int)=0:=List.count_eq_zero.2 fun hm=>by have:=(hk _ hm).2;omega
   have h3:rest.count (ar.length:Int)=0:=List.count_eq_zero.2 fun hm=>by have:=(h.rng _ (hp.mem_iff.2 (List.mem_append_right _ hm))).2;omega
   rw[h1,h2,h3];simp
theorem WA.right{ar:List Nod}{r:Int}(h:WA ar [r]):av ⟨ar,r⟩:=by
 have hr:=h.rng r (by simp);refine⟨hr,fun i n hi=>(h.ok i n hi).1,h.ok.kok,fun i hi=>?_⟩;have:=h.cnt i hi;rw[List.count_cons,List.count_nil]at this
 by_cases e:(i:Int)=r
 ·subst e;simp at this ⊢;exact this
 ·have e':(r==(i:Int))=false:=by simp;omega
  rw[e']at this;simp at this;rw[if_neg e];exact this
def szN(ns:List Nod)(x:Int):Nat:=(aA ns ns.length [x]).size
theorem szL(ns:List Nod)(hf:0<ns.length):∀l:List Int,(aA ns ns.length l).size=(l.map (szN ns)).sum
 |[]=>by rw[ay];rfl
 |x::l=>by rw[aM x l hf,Fo.bZ,szL ns hf l];rfl
theorem xH{ns:List Nod}(hc:bD (ae ns)){x:Int}(h0:0≤x)(hx:x<ns.length):szN ns x=((ae ns x).map (szN ns)).sum+1:=by
 rw[szN,bT hc h0 hx,Fo.size,szL ns (by omega)];rfl
structure Bfs(ns:List Nod)(root:Int)(i:Nat)(row:List Int):Prop where
 eq:row=root::(row.take i).flatMap (ae ns)
 le:i≤row.length
 mem:∀x∈row,0≤x∧x<ns.length
 sum:i+((row.drop i).map (szN ns)).sum=szN ns root
 E:∀p<i,p<1+((row.take p).flatMap (ae ns)).length
theorem Bfs.zero{ns:List Nod}{root:Int}(h0:0≤root)(h1:root<ns.length):Bfs ns root 0 [root]:=⟨by simp,by simp,by simp;omega,by simp,fun p h=>by omega⟩
theorem Bfs.step{ns:List Nod}(hk:KOk ns){root:Int}{i:Nat}{row:List Int}(h:Bfs ns root i row)(hi:i<row.length):Bfs ns root (i+1) (row++ae ns row[i]):=by
 have hc:=hk.ae;have ht:(row++ae ns row[i]).take (i+1)=row.take i++[row[i]]:=by
  rw[List.take_append_of_le_length (by omega),List.take_succ_eq_append_getElem hi]
 have hm:=h.mem _ (List.getElem_mem hi);refine⟨?_,by simp;omega,?_,?_,?_⟩
 ·rw[ht,List.flatMap_append,←List.cons_append,←h.eq];simp
 ·intro x hx;rcases List.mem_append.1 hx with hx|hx
  ·exact h.mem x hx
  ·have:=hc _ _ hx;omega
 ·have h1:=h.sum;rw[List.drop_eq_getElem_cons hi,List.map_cons,List.sum_cons,xH hc hm.1 hm.2]at h1;rw[List.drop_append_of_le_length (by omega),List.map_append,List.sum_append];omega
 ·intro p hp;rw[List.take_append_of_le_length (by omega)]
  by_cases e:p<i
  ·exact h.E p e
  ·obtain rfl:p=i:=by omega
   have:=congrArg List.length h.eq;simp only[List.length_cons]at this;omega
theorem Jw{ns:List Nod}(hc:bD (ae ns)){x:Int}(h0:0≤x)(hx:x<ns.length):0<szN ns x:=by rw[xH hc h0 hx];omega
theorem Fw{f:Int→Nat}:∀l:List Int,(∀x∈l,0<f x)→l.length≤(l.map f).sum
 |[],_=>by simp
 |x::l,h=>by
  have h1:=h x (by simp);have h2:=Fw l fun y hy=>h y (by simp[hy])
  simp;omega
theorem Bfs.len{ns:List Nod}(hk:KOk ns){root:Int}{i:Nat}{row:List Int}(h:Bfs ns root i row):row.length≤szN ns root:=by
 have h1:=Fw (f:=szN ns) (row.drop i) fun x hx=>by
  have:=h.mem x (List.mem_of_mem_drop hx);exact Jw hk.ae this.1 this.2
 have h2:=h.sum;have h3:=h.le;rw[List.length_drop]at h1;omega
def bE(ns:List Nod)(row:List Int)(p:Nat):Nat:=1+((row.take p).flatMap (ae ns)).length
def dw(ns:List Nod)(row:List Int)(b p:Nat):List Int:=(List.range (ae ns (row.getD p 0)).length).map fun j=>((b+row.length:Nat):Int)-1-((bE ns row p+j:Nat):Int)
def gN(ns:List Nod)(row:List Int)(b p:Nat):Nod:={ ns.getD (row.getD p 0).toNat .zero with kids:=dw ns row b p }
def gA(ar:List Nod)(ns:List Nod)(row:List Int)(m:Nat):List Nod:=ar++(List.range m).map fun j=>gN ns row ar.length (row.length-1-j)
theorem xa(ar ns:List Nod)(row:List Int)(m:Nat):(gA ar ns row m).length=ar.length+m:=by simp[gA]
theorem rX(ar ns:List Nod)(row:List Int)(m:Nat):gA ar ns row (m+1)=gA ar ns row m++[gN ns row ar.length (row.length-1-m)]:=by simp[gA,List.range_succ]
theorem mw{l:List Int}{i:Nat}(h:i<l.length):l.getD i 0=l[i]:=by simp[List.getD_eq_getElem?_getD,h]
theorem rS{ns:List Nod}{row:List Int}{p:Nat}(hp:p<row.length):bE ns row (p+1)=bE ns row p+(ae ns (row.getD p 0)).length:=by
 rw[bE,bE,List.take_succ_eq_append_getElem hp,List.flatMap_append,List.length_append,mw hp];simp;omega
structure Row(ns:List Nod)(root:Int)(row:List Int):Prop where
 b:Bfs ns root row.length row
theorem Row.eq{ns:List Nod}{root:Int}{row:List Int}(h:Row ns root row):row=root::row.flatMap (ae ns):=by
 have:=h.b.eq
 rwa [List.take_length]at this
theorem Row.pos{ns:List Nod}{root:Int}{row:List Int}(h:Row ns root row):0<row.length:=by rw[h.eq];simp
theorem Row.end_{ns:List Nod}{root:Int}{row:List Int}(h:Row ns root row):bE ns row row.length=row.length:=by
 have:=congrArg List.length h.b.eq;simp only[List.length_cons]at this;rw[bE];omega
theorem wG{ns:List Nod}{row:List Int}:∀{p q:Nat},p≤q→q≤row.length→bE ns row p≤bE ns row q:=by
 intro p q h
 induction h with
 |refl=>intro _;exact Nat.le_refl _
 |step h ih=>rename_i m;intro hq;have:=ih (by omega);have:=rS (ns:=ns) (row:=row) (p:=m) (by omega);rw[this];omega
theorem Row.kid{ns:List Nod}{root:Int}{row:List Int}(h:Row ns root row){p j:Nat}(hp:p<row.length)(hj:j<(ae ns (row.getD p 0)).length):row[bE ns row p+j]?=some ((ae ns (row.getD p 0))[j]):=by
 have e:=h.eq;have hsp:row.flatMap (ae ns)=(row.take p).flatMap (ae ns)++(ae ns (row.getD p 0)++(row.drop (p+1)).flatMap (ae ns)):=by
  conv=>lhs;rw[←List.take_append_drop p row,List.drop_eq_getElem_cons hp]
  rw[List.flatMap_append,List.flatMap_cons,mw hp]
 have:(root::row.flatMap (ae ns))[bE ns row p+j]?=some ((ae ns (row.getD p 0))[j]):=by
  rw[bE,show 1+((row.take p).flatMap (ae ns)).length+j=((row.take p).flatMap (ae ns)).length+j+1 by omega,List.getElem?_cons_succ,hsp,List.getElem?_append_right (by omega),Nat.add_sub_cancel_left,List.getElem?_append_left hj,List.getElem?_eq_getElem hj]
 rw[←e]at this;exact this
theorem qq{ar ns:List Nod}{f g:Nat}(hf:0<f)(hg:0<g):∀{l m:List Int},l.length=m.length→(∀(j:Nat) (h1:j<l.length) (h2:j<m.length),aA ar f [l[j]]=aA ns g [m[j]])→aA ar f l=aA ns g m
 |[],[],_,_=>by rw[ay,ay]
 |a::l,b::m,e,h=>by
  rw[aM a l hf,aM b m hg,qq hf hg (l:=l) (m:=m) (by simpa using e) fun j h1 h2=>h (j+1) (Nat.succ_lt_succ h1) (Nat.succ_lt_succ h2)];exact congrArg (fun z=>Fo.app z (aA ns g m)) (show aA ar f [a]=aA ns g [b]from h 0 (Nat.zero_lt_succ _) (Nat.zero_lt_succ _))
 |[],_::_,e,_=>by simp at e
 |_::_,[],e,_=>by simp at e
def gF(ns:List Nod)(row:List Int)(b p:Nat):List Int:=(List.range' p (bE ns row p-p)).map fun q:Nat=>((b+row.length:Nat):Int)-1-(q:Int)
structure GrI(ar:List Nod)(T:List Int)(ns:List Nod)(row:List Int)(m:Nat):Prop where
 wa:WA (gA ar ns row m) (T++gF ns row ar.length (row.length-m))
 den:∀p:Nat,row.length-m≤p→p<row.length→Den (gA ar ns row m) (((ar.length+row.length:Nat):Int)-1-(p:Int)) (aA ns ns.length [row.getD p 0])
theorem Jp{ar:List Nod}{T:List Int}{ns:List Nod}{root:Int}{row:List Int}(h:WA ar T)(hr:Row ns root row):GrI ar T ns row 0:=by
 refine⟨?_,fun p h1 h2=>by omega⟩;rw[Nat.sub_zero,gF,hr.end_,Nat.sub_self];simpa [gA]using h
theorem IC{ar:List Nod}{T:List Int}{t:Tre}(hR:av t){root:Int}{row:List Int}(hr:Row t.nodes root row){m:Nat}(h:GrI ar T t.nodes row m)(hm:m<row.length):GrI ar T t.nodes row (m+1):=by
 obtain⟨ns,hns⟩:=exEq (t.nodes);have hk:KOk ns:=by rw[hns];exact hR.kok
 have hc:=hk.ae;rw[←hns]at h hr ⊢;obtain⟨p,hp⟩:=exEq (row.length-1-m);have hpl:p<row.length:=by omega
 have hx:=hr.b.mem _ (List.getElem_mem hpl);have hgd:=mw hpl;have hE:p<bE ns row p:=hr.b.E p hpl;have hE2:=rS (ns:=ns) hpl;have hE3:=wG (ns:=ns) (p:=p+1) (q:=row.length) (by omega) (Nat.le_refl _);rw[hr.end_]at hE3;have hlen:=xa ar ns row m;have hkl:(dw ns row ar.length p).length=(ae ns (row.getD p 0)).length:=by simp[dw]
 have hkg:∀(j:Nat) (hj:j<(dw ns row ar.length p).length),(dw ns row ar.length p)[j]=((ar.length+row.length:Nat):Int)-1-((bE ns row p+j:Nat):Int):=fun j hj=>by simp[dw]
 have hch:ae ns (row.getD p 0)=(ns.getD (row.getD p 0).toNat .zero).kids:=by
  rw[hgd];obtain⟨q,hq⟩:∃q:Nat,row[p]=q:=⟨row[p].toNat,by omega⟩
  rw[hq]at hx ⊢;have hql:q<ns.length:=by omega
  rw[←aF (List.getElem?_eq_getElem hql)];simp[List.getD_eq_getElem?_getD,hql]
 have hfit:fits (gN ns row ar.length p) (gN ns row ar.length p).kids.length=true:=by
  show fits { ns.getD (row.getD p 0).toNat .zero with kids:=dw ns row ar.length p } ((dw ns row ar.length p).length:Int)=true
  rw[lS,hkl,hch];refine hR.fits (row.getD p 0).toNat _ ?_;have hlt:(row.getD p 0).toNat<ns.length:=by rw[hgd];omega
  rw[←hns,List.getElem?_eq_getElem hlt,List.getD_eq_getElem?_getD (l:=ns),List.getElem?_eq_getElem hlt];rfl
 have hden:∀(j:Nat) (hj:j<(dw ns row ar.length p).length),Den (gA ar ns row m) ((dw ns row ar.length p)[j]) (aA ns ns.length [(ae ns (row.getD p 0))[j]'(by rw[←hkl];exact hj)]):=fun j hj=>by
  have hj2:j<(ae ns (row.getD p 0)).length:=by rw[←hkl];exact hj
  have hrk:=hr.kid hpl hj2;obtain⟨hlt,hv⟩:=List.getElem?_eq_some_iff.1 hrk;have:=h.den (bE ns row p+j) (by omega) hlt;rw[mw hlt,hv]at this;rw[hkg];exact this
 have hf0:0<ns.length:=by omega
 have hnum:((gA ar ns row m).length:Int)=((ar.length+row.length:Nat):Int)-1-(p:Int):=by rw[hlen];omega
 refine⟨?_,fun q h1 h2=>?_⟩
 ·rw[rX,←hp];have hpe:gF ns row ar.length (row.length-m)=(List.range' (p+1) (bE ns row p-(p+1))).map (fun q:Nat=>((ar.length+row.length:Nat):Int)-1-(q:Int))++dw ns row ar.length p:=by
   rw[gF,show row.length-m=p+1 by omega,hE2,show bE ns row p+(ae ns (row.getD p 0)).length-(p+1)=(bE ns row p-(p+1))+(ae ns (row.getD p 0)).length by omega,←List.range'_append_1,List.map_append]
   congr 1
   rw[show p+1+(bE ns row p-(p+1))=bE ns row p by omega,dw,List.range'_eq_map_range,List.map_map];rfl
  have hpn:gF ns row ar.length (row.length-(m+1))=(((gA ar ns row m).length:Nat):Int)::(List.range' (p+1) (bE ns row p-(p+1))).map (fun q:Nat=>((ar.length+row.length:Nat):Int)-1-(q:Int)):=by
   rw[gF,show row.length-(m+1)=p by omega,show bE ns row p-p=(bE ns row p-(p+1))+1 by omega,List.range'_succ,List.map_cons,hnum]
  have hwa:=h.wa;rw[hpe,←List.append_assoc]at hwa;have:=hwa.snoc (n:=gN ns row ar.length p) (rest:=T++(List.range' (p+1) (bE ns row p-(p+1))).map (fun q:Nat=>((ar.length+row.length:Nat):Int)-1-(q:Int))) hfit List.perm_append_comm;rw[hpn];refine this.perm ?_;exact List.perm_middle.symm
 ·rw[rX,←hp];have hok:=h.wa.ok.kok.ae
  by_cases e:q=p
  ·subst e;rw[←hnum];have hd:=Den.snoc (n:=gN ns row ar.length q) hok (fun k hkk=>by
    obtain⟨j,hj,rfl⟩:=List.getElem_of_mem (show k∈dw ns row ar.length q from hkk);have:=hden j hj;exact⟨this.pos,this.lt⟩)
   have e1:aA ns ns.length [row.getD q 0]=.cons { gN ns row ar.length q with kids:=[] } (aA (gA ar ns row m) (gA ar ns row m).length (gN ns row ar.length q).kids) .nil:=by
    rw[bT hc (by rw[hgd];omega) (by rw[hgd];omega)];rw[show(gN ns row ar.length q).kids=dw ns row ar.length q from rfl]
    by_cases e0:(dw ns row ar.length q).length=0
    ·have e3:dw ns row ar.length q=[]:=List.eq_nil_of_length_eq_zero e0;have e4:ae ns (row.getD q 0)=[]:=List.eq_nil_of_length_eq_zero (by rw[←hkl];exact e0);rw[e3,e4,ay,ay];rfl
    ·have h0:=(hden 0 (by omega)).lt;rw[qq (ns:=ns) (g:=ns.length) (m:=ae ns (row.getD q 0)) (by have:=(hden 0 (by omega)).pos;omega) hf0 hkl fun j h1 h2=>(hden j h1).fo];rfl
   rw[e1];exact hd
  ·exact Den.app hok (h.den q (by omega) h2)
theorem zW{ar:List Nod}{T:List Int}(h:WA ar T){t:Tre}(hR:av t){root:Int}{row:List Int}(hr:Row t.nodes root row) :
  WA (gA ar t.nodes row row.length) (T++[((gA ar t.nodes row row.length).length:Int)-1])∧Den (gA ar t.nodes row row.length) (((gA ar t.nodes row row.length).length:Int)-1) (aA t.nodes t.nodes.length [root]):=by
 have key:∀m,m≤row.length→GrI ar T t.nodes row m:=by
  intro m
  induction m with
  |zero=>exact fun _=>Jp h hr
  |succ m ih=>exact fun hm=>IC hR hr (ih (by omega)) (by omega)
 have hg:=key row.length (Nat.le_refl _);have hpos:=hr.pos;have e0:row.getD 0 0=root:=by rw[hr.eq];rfl
 have hl:=xa ar t.nodes row row.length;have hn:((gA ar t.nodes row row.length).length:Int)-1=((ar.length+row.length:Nat):Int)-1-((0:Nat):Int):=by rw[hl];omega
 refine⟨?_,?_⟩
 ·have:=hg.wa;rw[Nat.sub_self,gF,show bE t.nodes row 0-0=1 by simp[bE]]at this;rw[hn];exact this
 ·have:=hg.den 0 (by omega) hpos;rw[e0]at this;rw[hn];exact this
def Fo.setAt:Nat→Fo→Fo→Fo
 |_,G,.nil=>.nil
 |0,G,.cons _ _ r=>G.app r
 |i+1,G,.cons n k r=>.cons n k (Fo.setAt i G r)
def bz(ns:List Nod):Int→List Int→Option (List (Int×Int)×Int)
 |k,[]=>some ([],k)
 |k,p::ps=>if p<0 then none else match(ae ns k)[p.toNat]? with
  |some x=>(match bz ns x ps with
   |some (l,e)=>some ((k,p)::l,e)
   |none=>none)
  |none=>none
def upS(ns:List Nod)(a:Int×Int)(F:Fo):Fo:=.cons (dat ns a.1) (Fo.setAt a.2.toNat F (aA ns ns.length (ae ns a.1))) .nil
def upF(ns:List Nod)(row:List (Int×Int))(X:Fo):Fo:=row.foldr (upS ns) X
def cw(t:Tre)(path:List Int)(x:Tre):Tre×Bool:=
 if(au t&&au x)=true then(match bz t.nodes t.root path with
  |some (row,_)=>(cj (upF t.nodes row (foT x)).norm,true)
  |none=>(.zero,false))
 else(.zero,false)
def dh(t:Tre)(path:List Int):Tre×Bool:=
 if au t=true then(match bz t.nodes t.root path with
  |some (_,k)=>(aD t k,true)
  |none=>(.zero,false))
 else(.zero,false)
def FK(ns:List Nod)(row:List (Int×Int)):Prop:=∀a∈row,(0≤a.1∧a.1<ns.length)∧0≤a.2∧a.2<(ae ns a.1).length
theorem fW{ns:List Nod}(hc:bD (ae ns)):∀(path:List Int) (k:Int),0≤k→k<ns.length→∀l e,bz ns k path=some (l,e)→FK ns l∧0≤e∧e<ns.length∧l.length=path.length
 |[],k,h0,h1,l,e,h=>by
  simp only[bz,Option.some.injEq,Prod.mk.injEq]at h;obtain⟨rfl,rfl⟩:=h;exact⟨by simp[FK],h0,h1,rfl⟩
 |p::ps,k,h0,h1,l,e,h=>by
  rw[bz]at h
  split at h
  ·cases h
  ·rename_i hp
   split at h
   ·rename_i x hx;have hm:=List.mem_of_getElem? hx;have:=hc k x hm;obtain⟨hlt,_⟩:=List.getElem?_eq_some_iff.1 hx
    split at h
    ·rename_i l' e' hd
     cases h;obtain⟨q1,q2,q3,q4⟩:=fW hc ps x this.1 (by omega) l' e hd;refine⟨fun a ha=>?_,q2,q3,by simp[q4]⟩;rcases List.mem_cons.1 ha with rfl|ha
     ·exact⟨⟨h0,h1⟩,by dsimp only;omega,by dsimp only;omega⟩
     ·exact q1 a ha
    ·cases h
   ·cases h
structure UpI(ns ar:List Nod)(a:Int×Int)(root:Int)(X:Fo)(ks:List Int)(i:Nat):Prop where
 wa:WA ar (ks++if(i:Int)≤a.2 then[root]else[])
 len:ks.length=i
 root:(i:Int)≤a.2→Den ar root X
 den:∀(j:Nat) (h1:j<ks.length) (h2:j<(ae ns a.1).length),Den ar ks[j] (if(j:Int)=a.2 then X else aA ns ns.length [(ae ns a.1)[j]])
theorem tX{ar ns:List Nod}{f g:Nat}(hf:0<f)(hg:0<g)(X:Fo):∀{l m:List Int} (k:Nat),l.length=m.length→(∀(j:Nat) (h1:j<l.length) (h2:j<m.length),aA ar f [l[j]]=if j=k then X else aA ns g [m[j]])→aA ar f l=Fo.setAt k X (aA ns g m)
 |[],[],k,_,_=>by rw[ay,ay];cases k<;>rfl
 |a::l,b::m,k,e,h=>by
  obtain⟨j,hj⟩:=fJ (ns:=ns) (f:=g) b hg;rw[aM a l hf,aM b m hg,hj];have h0:aA ar f [a]=if 0=k then X else aA ns g [b]:=h 0 (Nat.zero_lt_succ _) (Nat.zero_lt_succ _)
  rw[h0]
  cases k with
  |zero=>
   rw[if_pos rfl,qq hf hg (l:=l) (m:=m) (by simpa using e) fun j h1 h2=>(h (j+1) (Nat.succ_lt_succ h1) (Nat.succ_lt_succ h2)).trans (if_neg (by omega))];rfl
  |succ k=>
   rw[if_neg (by omega),hj,tX (ns:=ns) hf hg X (l:=l) (m:=m) k (by simpa using e) fun j h1 h2=>(h (j+1) (Nat.succ_lt_succ h1) (Nat.succ_lt_succ h2)).trans (by by_cases e:j=k<;>simp[e])];rfl
 |[],_::_,_,e,_=>by simp at e
 |_::_,[],_,e,_=>by simp at e
theorem JI{ns ar:List Nod}{a:Int×Int}{root:Int}{X:Fo}(hw:WA ar [root])(hd:Den ar root X)(ha:0≤a.2):UpI ns ar a root X [] 0:=⟨by simpa [ha]using hw,rfl,fun _=>hd,fun j h1=>by simp at h1⟩
theorem LP{ns ar:List Nod}{a:Int×Int}{root:Int}{X:Fo}{ks:List Int}{i:Nat}(h:UpI ns ar a root X ks i)(hi:(i:Int)=a.2):UpI ns ar a root X (ks++[root]) (i+1):=by
 have hw:=h.wa;rw[if_pos (by omega)]at hw;refine⟨by rw[if_neg (by omega),List.append_nil];exact hw,by simp[h.len],fun q=>by omega,fun j h1 h2=>?_⟩
 by_cases e:j<ks.length
 ·rw[List.getElem_append_left e];exact h.den j e h2
 ·have:j=i:=by simp[h.len]at h1 e;omega
  subst this;rw[List.getElem_append_right (by omega),if_pos hi];simpa using h.root (by omega)
theorem KV{t:Tre}(hR:av t){ar:List Nod}{a:Int×Int}{root:Int}{X:Fo}{ks:List Int}{i:Nat}(h:UpI t.nodes ar a root X ks i)(hi:(i:Int)≠a.2)(hl:i<(ae t.nodes a.1).length){row:List Int}(hr:Row t.nodes (ae t.nodes a.1)[i] row) :
  UpI t.nodes (gA ar t.nodes row row.length) a root X (ks++[((gA ar t.nodes row row.length).length:Int)-1]) (i+1):=by
 obtain⟨hg,hgd⟩:=zW h.wa hR hr;have hkk:∀{p:Int}{F:Fo},Den ar p F→Den (gA ar t.nodes row row.length) p F:=fun hd=>Den.app h.wa.ok.kok.ae hd
 refine⟨hg.perm ?_,by simp[h.len],fun q=>hkk (h.root (by omega)),fun j h1 h2=>?_⟩
 ·rw[show(if((i+1:Nat):Int)≤a.2 then[root]else[])=if(i:Int)≤a.2 then[root]else[]by
   by_cases e:(i:Int)≤a.2
   ·rw[if_pos e,if_pos (by omega)]
   ·rw[if_neg e,if_neg (by omega)]]
  rw[List.append_assoc,List.append_assoc];exact List.Perm.append_left _ List.perm_append_comm
 ·by_cases e:j<ks.length
  ·rw[List.getElem_append_left e];exact hkk (h.den j e h2)
  ·have:j=i:=by simp[h.len]at h1 e;omega
   subst this;rw[List.getElem_append_right (by omega),if_neg hi];simpa using hgd
theorem JG{t:Tre}(hR:av t){ar:List Nod}{a:Int×Int}{root:Int}{X:Fo}{ks:List Int}(ha:(0≤a.1∧a.1<t.nodes.length)∧0≤a.2∧a.2<(ae t.nodes a.1).length)(h:UpI t.nodes ar a root X ks (ae t.nodes a.1).length)(n:Nod)(hn:n=t.nodes.getD a.1.toNat .zero) :
  WA (ar++[{ n with kids:=ks }]) [(ar.length:Int)]∧Den (ar++[{ n with kids:=ks }]) (ar.length:Int) (upS t.nodes a X):=by
 have hw:=h.wa;rw[if_neg (by omega),List.append_nil]at hw;have hch:ae t.nodes a.1=n.kids:=by
  rw[hn];obtain⟨q,hq⟩:∃q:Nat,a.1=q:=⟨a.1.toNat,by omega⟩
  have hql:q<t.nodes.length:=by omega
  rw[hq,←aF (List.getElem?_eq_getElem hql)];simp[List.getD_eq_getElem?_getD,hql]
 have hfit:fits { n with kids:=ks } (ks.length:Int)=true:=by
  rw[lS,h.len,hch];refine hR.fits a.1.toNat n ?_;rw[hn,List.getD_eq_getElem?_getD,List.getElem?_eq_getElem (by omega)];rfl
 have hden:∀(j:Nat) (h1:j<ks.length),Den ar ks[j] (if(j:Int)=a.2 then X else aA t.nodes t.nodes.length [(ae t.nodes a.1)[j]'(by rw[←h.len];exact h1)]):=fun j h1=>h.den j h1 (by rw[←h.len];exact h1)
 refine⟨by simpa using hw.snoc (n:={ n with kids:=ks }) (rest:=[]) hfit (by simp),?_⟩;have hd:=Den.snoc (n:={ n with kids:=ks }) hw.ok.kok.ae (fun k hk=>hw.rng k hk);have e1:upS t.nodes a X=.cons { ({ n with kids:=ks }:Nod)with kids:=[] } (aA ar ar.length ks) .nil:=by
  have h0:0<ks.length:=by rw[h.len];omega
  rw[upS,tX (ar:=ar) (ns:=t.nodes) (f:=ar.length) (g:=t.nodes.length) (by have:=(hden 0 h0).lt;have:=(hden 0 h0).pos;omega) (by omega) X (l:=ks) (m:=ae t.nodes a.1) a.2.toNat h.len fun j h1 h2=>?_]
  ·rw[dat,←hn]
  ·rw[(h.den j h1 h2).fo]
   by_cases e:(j:Int)=a.2
   ·rw[if_pos e,if_pos (by omega)]
   ·rw[if_neg e,if_neg (by omega)]
 rw[e1];exact hd
theorem Eh{ar:List Nod}{root:Int}{F:Fo}(hw:WA ar [root])(hd:Den ar root F):kR ⟨ar,root⟩=(cj F.norm,true):=by
 rw[my hw.right.right,foT,hd.fo]
end Go.aa
end
section
namespace Go.Km
open Go Go.Vc Go.Proofs Go.aa Go.Proofs.YtpbichnnflabdaaGreatDoor
set_option maxRecDepth 100000
set_option maxHeartbeats 0
abbrev xj(a:Int×Int):List F:=[inF a.1,inF a.2]
instance:lb xj 2:=⟨fun _=>rfl⟩
def dnR:Option (List (Int×Int)×Int)→List (Int×Int)
 |some (l,_)=>l
 |none=>[]
def dnK:Option (List (Int×Int)×Int)→Int
 |some (_,e)=>e
 |none=>0
instance(t:Tre)(p:List Int):C 139 [aE t,isF p] (.tp [.sl ((dnR (bz t.nodes t.root p)).map xj),inF (dnK (bz t.nodes t.root p)),boF (bz t.nodes t.root p).isSome]) false (t.wf∧av t∧p.length≤1000000):=⟨fun⟨hw,hR,hp⟩=>by
 have hlen:=hw.len;simp only[bY]at hlen;have hc:=hR.kok.ae;refine kf rfl rfl ?_;repeat' first|exact k9|refine k2 ?_|apply kA|apply kI;intro hc|refine k8 ?_|apply kL;intro hl
 apply Stp.nj 7 211 2 rfl rfl;apply kCt [2,7,8,14,15,16] [];conv=>whnf
 obtain⟨r,hr⟩:∃r:Nat,t.root=r:=⟨t.root.toNat,by have:=hR.root;omega⟩
 have hrl:=hR.root.2;rw[hr]at hrl ⊢;obtain⟨D0,hD0⟩:∃o,o=bz t.nodes (r:Int) p:=⟨_,rfl⟩
 rw[←hD0];refine Lp.ind (fun x:Nat×List (Int×Int)×Nat=>p.length-x.1) (fun x=>x.1≤p.length∧x.2.1.length=x.1∧x.2.2<t.nodes.length∧D0=(match bz t.nodes (x.2.2:Int) (p.drop x.1)with|some (l,e)=>some (x.2.1++l,e)|none=>none)) (fun x=>[(16,InD x.1),(8,InD x.2.2)]) (fun x=>[(1,.ro 0 211 2 (x.2.1.map xj))]) (fun _=>_) (0,[],r) ⟨Nat.zero_le _,rfl,by dsimp only;omega,by dsimp only;rw[List.drop_zero,←hD0];cases D0<;>rfl⟩ rfl rfl rfl ?_
 rintro G ⟨i,l,q⟩ ih ⟨hi,hl0,hq,hT⟩
 dsimp only at hi hl0 hq hT ih ⊢
 by_cases hx:i<p.length
 ·rw[List.drop_eq_getElem_cons hx,bz]at hT;have hch:ae t.nodes (q:Int)=t.nodes[q].kids:=(aF (List.getElem?_eq_getElem hq)).symm;rw[hch]at hT;have hko:=hR.kok q t.nodes[q] (List.getElem?_eq_getElem hq)
  by_cases h0:p[i]<0
  ·rw[if_pos h0]at hT;subst hT
   repeat' first|exact k9|refine k2 ?_|apply kA|apply kI;intro hc|refine k8 ?_|apply kL;intro hl
   exact aq.i rfl
  ·rw[if_neg h0]at hT
   by_cases h1:p[i].toNat<t.nodes[q].kids.length
   ·rw[List.getElem?_eq_getElem h1]at hT;obtain⟨y,hy⟩:∃y:Nat,t.nodes[q].kids[p[i].toNat]=y:=⟨t.nodes[q].kids[p[i].toNat].toNat,by have:=hko _ (List.getElem_mem h1);omega⟩
    have hyl:=hko _ (List.getElem_mem h1);rw[hy]at hyl;have hyi:∀h:p[i].toNat<t.nodes[q].kids.length,t.nodes[q].kids[p[i].toNat]'h=(y:Int):=fun _=>hy
    simp only[hy]at hT
    repeat' first|exact k9|refine k2 ?_|apply kA|apply kI;intro hc|apply kL;intro hl|((simp only[hyi])<;>conv=>whnf)|refine k8 ?_|fail
    apply kCt [2,7,8,14,15,16] [];conv=>whnf
    refine ih (i+1,l++[((q:Int),p[i])],y) _ _ _ (by dsimp only;omega) ⟨by dsimp only;omega,by simp[hl0],by dsimp only;omega,?_⟩ rfl rfl ?_
    ·dsimp only;rw[hT]
     cases bz t.nodes (y:Int) (p.drop (i+1))with
     |none=>rfl
     |some x=>obtain⟨a,b⟩:=x;simp
    ·dsimp only;rw[List.map_append];rfl
   ·rw[List.getElem?_eq_none (by omega)]at hT;simp only at hT;subst hT
    repeat' first|exact k9|refine k2 ?_|apply kA|apply kI;intro hc|refine k8 ?_|apply kL;intro hl
    exact aq.i rfl
 ·obtain rfl:i=p.length:=by omega
  rw[List.drop_length,bz]at hT;simp only[List.append_nil]at hT;subst hT
  repeat' first|exact k9|refine k2 ?_|apply kA|apply kI;intro hc|refine k8 ?_|apply kL;intro hl
  exact aq.i rfl⟩
instance(l:List (Int×Int)):C 155 [.sl (l.map xj)] (.tp [.ag (xj (l.getLastD (0,0))),.sl (l.dropLast.map xj)]) false (0<l.length∧l.length≤1000000):=⟨fun⟨h0,hl⟩=>by
 have hlast:∀h:(((l.length:Nat):Int)-1).toNat<l.length,l[(((l.length:Nat):Int)-1).toNat]'h=l.getLastD (0,0):=fun h=>by
  obtain⟨m,a,rfl⟩:=(bQ l).resolve_left (by intro e;subst e;simp at h0);simp
 have htk:List.take (((l.length:Nat):Int)-1).toNat (l.map xj)=l.dropLast.map xj:=by
  rw[show(((l.length:Nat):Int)-1).toNat=l.length-1 by omega,List.dropLast_eq_take,List.map_take]
 refine kf rfl rfl ?_;repeat' first|exact k9|refine k2 ?_|apply kA|apply kI;intro hc|refine k8 ?_|apply kL;intro hl
 refine aq.i ?_;simp only[List.length_map,hlast,List.drop_zero,htk]⟩
instance(t:Tre)(p:List Int):C 116 [aE t,isF p] (.tp [aE (dh t p).1,boF (dh t p).2]) false (t.wf∧p.length≤1000000):=⟨fun⟨hw,hp⟩=>by
 cases hr:au t with
 |false=>
  have e:dh t p=(.zero,false):=by rw[dh,if_neg (by rw[hr];decide)]
  rw[e];refine kf rfl rfl ?_;repeat' first|exact k9|refine k2 ?_|apply kA|apply kI;intro hc|refine k8 ?_|apply kL;intro hl
  exact aq.i rfl
 |true=>
  have hR:=ao hr;have hpre:t.wf∧av t∧p.length≤1000000:=⟨hw,hR,hp⟩
  have hd:=fW hR.kok.ae p t.root hR.root.1 hR.root.2;refine kf rfl rfl ?_;repeat' first|exact k9|refine k2 ?_|apply kA|apply kI;intro hc|refine k8 ?_|apply kL;intro hl
  ·obtain⟨⟨l,k⟩,ho⟩:=Option.isSome_iff_exists.1 hc;obtain⟨_,h1,h2,_⟩:=hd l k ho;have e:dh t p=(aD t k,true):=by rw[dh,if_pos hr,ho]
   have e2:ke t k=(aD t k,true):=by rw[ke,if_pos ⟨hr,h1,h2⟩]
   have e3:dnK (bz t.nodes t.root p)=k:=by rw[ho];rfl
   rw[e,e3,e2];exact aq.i rfl
  ·have ho:bz t.nodes t.root p=none:=by
    cases h:bz t.nodes t.root p with
    |none=>rfl
    |some x=>rw[h]at hc;cases hc
   have e:dh t p=(.zero,false):=by rw[dh,if_pos hr,ho]
   rw[e];exact aq.i rfl⟩
end Go.Km
end
