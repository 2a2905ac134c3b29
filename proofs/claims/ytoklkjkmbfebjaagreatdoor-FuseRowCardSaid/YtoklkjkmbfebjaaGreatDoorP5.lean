/- The texts that the card needs, part 6. -/
import Derived.Test.YtoklkjkmbfebjaaGreatDoorP4
set_option linter.all false
section
namespace Go.Km
open Go Go.RowKit Go.Vc
open Go.Sl hiding lk
class jl (ρ:Type) where
 post:ρ→sQ
def Sn{ρ:Type}[jl ρ](P:Program)(X:Tx)(f0:Nat)(r:ρ)(g:Cfg):Prop:=∀(W:Bs) (cs0:List Frame),GOk X.Γ W.c→Snd P W cs0 f0 (jl.post r) g
instance:jl (F×Bool):=⟨fun r d h=>∃x is,D.toF (lk h) 6 d=some (x,is)∧x=r.1∧(r.2=true→cD (lk h) d=true)⟩
def tu(f:Nat)(fi:Fi)(l:List D):Cfg:=⟨⟨f,fi.N,mD 0 l,[.code fi.body],[],none⟩,[],[],0⟩
section
variable {P:Program} {X:Tx} (hX:j5 P X) {f0:Nat}
section
variable {ρ:Type} [jl ρ] {r:ρ}
variable {R:Type} {al:Al R} {T:R→Prop} (hb:ux al T) {K:Cfg→R} (hK:∀g,T (K g)→Sn P X f0 r g)
 {O:Orc R} (hO:vz P X T O) {fin:D→List (Nat×B)→R} (hfin:∀d h,T (fin d h)→jl.post r d h)
include hX hb hK hO hfin in
theorem Ja{g:Cfg}(h:T (stepG al X O fin K g)):Sn P X f0 r g:=fun W cs0 hΓ=>F9 hX hΓ hb (fun g hg=>hK g hg W cs0 hΓ) hO hfin h
end
variable {r:F×Bool}
theorem F7(l:List F):(l.map F.toD).length=l.length:=List.length_map _
include hX in
theorem JH{f:FuncId}{fi:Fi}{l:List F}(hf:X.fi f=some fi)(hN:Nat.ble l.length fi.N=true)(h:Sn P X f r (tu f fi (l.map F.toD))):Pure P X.Γ f l r.1 r.2:=by
 obtain⟨hcf,fn,hfn,hbd,hNn,hrs⟩:=hX.fi _ _ hf;refine⟨hcf,fun Z w vs hZ hΓ hvs=>?_⟩
 let W:Bs:=⟨w,fun _=>False,⟨fun _ _=>none,w,Z⟩⟩
 have hvs':D.ah W.c (l.map F.toD) vs:=jt hvs;intro cs;have hs:=nJ (N:=fi.N) hvs' (by rw[F7];exact hN);obtain⟨v,w',fr,d,h1,c1,O1,q1,q2,q3,⟨x,is,q4,q5,q6⟩,q7,q8,q9⟩:=eY.fn (fun q h ⟨x,is,e,_⟩=>by simp[D.toF] at e) <| h W cs hΓ W.c (fun _ _=>False) ((bF f none).atR ⟨vs.toArray++Array.replicate (fi.N - vs.toArray.size) undef,[]⟩ [.code fi.body]) [] w
  ⟨⟨_,_,none,rfl,hs,⟨_,_,rfl,rfl,rfl⟩,rfl,rfl⟩,rfl,⟨fun b x hx=>(by simp[tu,lk] at hx),fun b v y hy=>(by cases hy),fun b b' g h=>h.elim,fun g hg=>⟨hZ g hg,rfl,fun _ h=>h⟩,fun b g h=>h.elim⟩,
   ⟨rfl,rfl,rfl,Nat.le_refl _,fun _ _ _=>rfl,fun _ _ h=>h.elim,fun g hg=>.inl hg,Ext.refl _ _⟩,rfl⟩
 have hWO:∀g,¬W.O g:=fun _ h=>h
 have h4:=jR q8 is 6 _ _ _ _ q4 (fun b h=>h) q7;refine⟨.returned v,w',fr,⟨v,rfl,⟨q9.os,q9.tape,q9.output,q9.size,fun g hg=>q9.b4 g hg (hWO g)⟩,?_⟩,?_,q2,q3⟩
 ·rw[←q5]
  cases hfr:cD (lk h1) d with
  | true=>
   have h6:=u9 q8 is 6 _ _ _ _ q4 (fun b h=>h) hfr q7;refine F.rep.ext ⟨fun g hg=>?_,fun g _=>rfl⟩ _ _ h6;obtain⟨b,_,hg⟩:=hg;rcases q9.own b g hg with h5|h5
   ·exact(hWO g h5).elim
   ·exact .inr ⟨h5,q8.lt b g hg⟩
  | false=>
   have hr2:r.2=false:=by
    cases hr:r.2 with
    | false=>rfl
    | true=>rw[q6 hr] at hfr;cases hfr
   refine F.rep.ext ⟨fun g hg=>?_,fun g _=>rfl⟩ _ _ h4;rcases hg with hg|⟨b,_,hg⟩
   ·rcases q9.mW g hg with h5|h5|h5
    ·exact .inl ⟨hr2,h5⟩
    ·exact(hWO g h5).elim
    ·exact .inr ⟨h5,(q8.fz g hg).1⟩
   ·rcases q9.own b g hg with h5|h5
    ·exact(hWO g h5).elim
    ·exact .inr ⟨h5,q8.lt b g hg⟩
 rw[s5 hfn hbd,hNn];exact q1
def run(X:Tx)(nat:FuncId→List F→Option (F×Bool)):Nat→Cfg→Option (F×Bool)
 | 0,_=>none
 | n+1,g=>stepG (alO _) X ⟨fun f l k=>match nat f l with
  | some x=>k x
  | none=>match X.fi f with
   | some fi=>bif Nat.ble l.length fi.N then (match run X nat n (tu f fi (l.map F.toD)) with
    | some x=>k x
    | none=>none) else none
   | none=>none,fun _ _ _ _ _=>none,fun _ _ _ _ _ _=>none⟩ (fun d h=>match D.toF (lk h) 6 d with
    | some (x,_)=>some (x,cD (lk h) d)
    | none=>none) (run X nat n) g
include hX in
end
attribute [irreducible] Sn
abbrev Rn:=List (Nat×Nat)
def cj:Rn→Nat→Nat→Nat→Option Nat
 | [],_,_,_=>none
 | (b',v') :: m,b,v,i=>bif Nat.beq b b' then (bif Nat.beq v v' then some i else none) else cj m b v (i+1)
mutual
def bu(m:Rn):D→Option D
 | .fr x=>some (.fr x)
 | .fx r=>some (.fx r)
 | .ag l=>match aN m l with|some l=>some (.ag l)|none=>none
 | .tp l=>match aN m l with|some l=>some (.tp l)|none=>none
 | .cl f l=>match aN m l with|some l=>some (.cl f l)|none=>none
 | .mcl f k l=>match aN m k,aN m l with|some k,some l=>some (.mcl f k l)|_,_=>none
 | .ptr b v o=>match cj m b v 0 with|some i=>some (.ptr i 0 o)|none=>none
 | .rp b v sz j o=>match cj m b v 0 with|some i=>some (.rp i 0 sz j o)|none=>none
 | .own b v=>match cj m b v 0 with|some i=>some (.own i 0)|none=>none
 | .mv b v=>match cj m b v 0 with|some i=>some (.mv i 0)|none=>none
 | .yl b v=>match cj m b v 0 with|some i=>some (.yl i 0)|none=>none
 | .sub b v sz lo hi ex=>match cj m b v 0 with|some i=>some (.sub i 0 sz lo hi ex)|none=>none
def aN(m:Rn):List D→Option (List D)
 | []=>some []
 | d :: l=>match bu m d,aN m l with|some d,some l=>some (d :: l)|_,_=>none
end
def xK(m:Rn)(s:List (Nat×D)):List Nat→List (Nat×D)
 | []=>[]
 | k :: ks=>match lk s k with
  | some d=>(match bu m d with
   | some d=>(k,d) :: xK m s ks
   | none=>xK m s ks)
  | none=>xK m s ks
def eI(m:Rn)(kc:List Nat):B→Option B
 | .va v t cs=>match aN m cs with|some cs=>some (.va 0 t cs)|none=>none
 | .ro v e sz rows=>some (.ro 0 e sz rows)
 | .gone _=>none
 | .mp v rows=>some (.mp 0 rows)
 | .lp v l=>match cj m l.db l.dv 0 with|some i=>some (.lp 0 { l with s:=xK m l.s kc,db:=i,dv:=0 })|none=>none
 | .df v=>some (.df 0)
 | .gh v vs ds=>match aN m ds with|some ds=>some (.gh 0 vs ds)|none=>none
 | .ab v a=>some (.ab 0 a)
def dq(m:Rn)(kc:List Nat)(h:List (Nat×B)):Rn→Nat→Option (List (Nat×B))
 | [],_=>some []
 | (b,v) :: l,i=>match lk h b with
  | some x=>bif Nat.beq x.ver v then (match eI m kc x,dq m kc h l (i+1) with
   | some x,some h=>some ((i,x) :: h)
   | _,_=>none) else none
  | none=>none
def Ga(m:Rn):List KI→Option (List KI)
 | []=>some []
 | x :: l=>match (match x with
   | .rf b v=>(match cj m b v 0 with|some i=>some (.rf i 0)|none=>none)
   | .erf b v=>(match cj m b v 0 with|some i=>some (.erf i 0)|none=>none)
   | x=>some x),Ga m l with
  | some x,some l=>some (x :: l)
  | _,_=>none
def FE(m:Rn):List (Nat×Nat)→Option (List (Nat×Nat))
 | []=>some []
 | (b,v) :: l=>match cj m b v 0,FE m l with
  | some i,some l=>some ((i,0) :: l)
  | _,_=>none
def Db(m:Rn):Option (Nat×Nat)→Option (Option (Nat×Nat))
 | none=>some none
 | some (b,v)=>match cj m b v 0 with|some i=>some (some (i,0))|none=>none
def yT(m:Rn)(keys:List Nat)(f:Fm):Option Fm:=match Ga m f.k,FE m f.ds,Db m f.ro with
 | some k,some ds,some ro=>some { f with s:=xK m f.s keys,k:=k,ds:=ds,ro:=ro }
 | _,_,_=>none
def kF(m:Rn)(kc:List Nat):List Fm→Option (List Fm)
 | []=>some []
 | f :: l=>match yT m kc f,kF m kc l with
  | some f,some l=>some (f :: l)
  | _,_=>none
def b8:Rn→Bool
 | []=>true
 | (b,_) :: m=>!(m.any fun p=>Nat.beq p.1 b)&&b8 m
def cut(m:Rn)(kc keys:List Nat)(g:Cfg):Option Cfg:=bif b8 m then (match yT m keys g.top,kF m kc g.cs,dq m kc g.h m 0 with
 | some top,some cs,some h=>some ⟨top,cs,h,m.length⟩
 | _,_,_=>none) else none
def rι(m:Rn)(c:Cf):Nat→Nat→Option (Option Addr×Nat×Nat):=fun i v=>match v,m[i]? with
 | 0,some (b,v)=>c.ι b v
 | _,_=>none
def rC(m:Rn)(c:Cf):Cf:=⟨rι m c,c.R,c.Z⟩
def rO(m:Rn)(O:Nat→Nat→Prop):Nat→Nat→Prop:=fun i g=>∃b v,m[i]?=some (b,v)∧O b g
theorem dE:∀{m:Rn} {b v i j:Nat},cj m b v i=some j→i≤j∧m[j - i]?=some (b,v)
 | [],b,v,i,j,h=>by cases h
 | (b',v') :: m,b,v,i,j,h=>by
  simp only[cj] at h
  cases hb:Nat.beq b b' with
  | true=>
   rw[hb] at h
   cases hv:Nat.beq v v' with
   | true=>
    rw[hv] at h;simp at h;subst h;rw[Nat.eq_of_beq_eq_true hb,Nat.eq_of_beq_eq_true hv];simp
   | false=>rw[hv] at h;cases h
  | false=>
   rw[hb] at h;obtain⟨h1,h2⟩:=dE (m:=m) h;refine⟨by omega,?_⟩;rw[show j - i=(j - (i+1))+1 by omega];simpa using h2
theorem gl{m:Rn}{b v i:Nat}{c:Cf}(h:cj m b v 0=some i):(rC m c).ι i 0=c.ι b v:=by
 have:=(dE h).2;rw[Nat.sub_zero] at this;simp[rC,rι,this]
section
variable {m:Rn} {kc:List Nat} {c:Cf}
mutual
theorem sx:∀{d d':D} {u:Value},bu m d=some d'→D.rep c d u→D.rep (rC m c) d' u
 | .fr x,d',u,h,hd=>by simp only[bu] at h;cases h;unfold D.rep at hd ⊢;exact hd
 | .fx x,d',u,h,hd=>by simp only[bu] at h;cases h;unfold D.rep at hd ⊢;exact hd
 | .ag l,d',u,h,hd=>by
  simp only[bu] at h
  split at h<;>cases h
  rename_i l' hl;unfold D.rep at hd ⊢;obtain⟨vs,h1,h2⟩:=hd;exact⟨vs,h1,cg hl h2⟩
 | .tp l,d',u,h,hd=>by
  simp only[bu] at h
  split at h<;>cases h
  rename_i l' hl;unfold D.rep at hd ⊢;obtain⟨vs,h1,h2⟩:=hd;exact⟨vs,h1,cg hl h2⟩
 | .cl f l,d',u,h,hd=>by
  simp only[bu] at h
  split at h<;>cases h
  rename_i l' hl;unfold D.rep at hd ⊢;obtain⟨vs,h1,h2⟩:=hd;exact⟨vs,h1,cg hl h2⟩
 | .mcl f k l,d',u,h,hd=>by
  simp only[bu] at h
  split at h<;>cases h
  rename_i k' l' hk hl;unfold D.rep at hd ⊢;obtain⟨us,vs,h1,h2,h3⟩:=hd;exact⟨us,vs,h1,cg hk h2,cg hl h3⟩
 | .ptr b v o,d',u,h,hd=>by
  simp only[bu] at h
  split at h<;>cases h
  rename_i i hi;unfold D.rep at hd ⊢
  rwa [gl hi]
 | .rp b v sz j o,d',u,h,hd=>by
  simp only[bu] at h
  split at h<;>cases h
  rename_i i hi;unfold D.rep at hd ⊢
  rwa [gl hi]
 | .own b v,d',u,h,hd=>by
  simp only[bu] at h
  split at h<;>cases h
  rename_i i hi;unfold D.rep at hd ⊢
  rwa [gl hi]
 | .mv b v,d',u,h,hd=>by
  simp only[bu] at h
  split at h<;>cases h
  rename_i i hi;unfold D.rep at hd ⊢
  rwa [gl hi]
 | .yl b v,d',u,h,hd=>by
  simp only[bu] at h
  split at h<;>cases h
  rename_i i hi;unfold D.rep at hd ⊢
  rwa [gl hi]
 | .sub b v sz lo hi ex,d',u,h,hd=>by
  simp only[bu] at h
  split at h<;>cases h
  rename_i i hi;unfold D.rep at hd ⊢
  rwa [gl hi]
theorem cg:∀{d d':List D} {u:List Value},aN m d=some d'→D.ah c d u→D.ah (rC m c) d' u
 | [],d',u,h,hd=>by simp only[aN] at h;cases h;unfold D.ah at hd ⊢;exact hd
 | x :: l,d',u,h,hd=>by
  simp only[aN] at h
  split at h<;>cases h
  rename_i x' l' hx hl;unfold D.ah at hd ⊢;obtain⟨a,b,h1,h2,h3⟩:=hd;exact⟨a,b,h1,sx hx h2,cg hl h3⟩
end
theorem nW{s:List (Nat×D)}:∀{ks:List Nat} {k:Nat} {d:D},lk (xK m s ks) k=some d→∃d',lk s k=some d'∧bu m d'=some d
 | [],k,d,h=>by cases h
 | j :: ks,k,d,h=>by
  simp only[xK] at h
  split at h
  ·rename_i d1 h1
   split at h
   ·rename_i d2 h2;simp only[lk] at h
    cases e:Nat.beq j k with
    | true=>
     rw[e] at h;simp at h;subst h;have:=Nat.eq_of_beq_eq_true e;subst this;exact⟨d1,h1,h2⟩
    | false=>rw[e] at h;exact nW h
   ·exact nW h
  ·exact nW h
theorem Cc{N:Nat}{s:List (Nat×D)}{ks:List Nat}{tmps:Array Value}(h:bq c N s tmps):bq (rC m c) N (xK m s ks) tmps:=⟨h.size,fun k d hk=>by
 obtain⟨d',h1,h2⟩:=nW hk;exact sx h2 (h.get k d' h1)⟩
theorem Dw{b i:Nat}{x x':B}{S:Nat→Prop}{w:World}(hi:m[i]?=some (b,x.ver))(h:eI m kc x=some x')(hx:x.on c b S w):x'.on (rC m c) i S w:=by
 have hι:(rC m c).ι i 0=c.ι b x.ver:=by simp[rC,rι,hi]
 cases x with
 | va v t cs=>
  simp only[eI] at h
  split at h<;>cases h
  rename_i cs' hcs;obtain⟨g,vs,h1,h2,h3,h4⟩:=hx;exact⟨g,vs,hι.trans h1,cg hcs h2,h3,h4⟩
 | ro v e sz rows=>
  simp only[eI] at h
  cases h;obtain⟨A,k,vr,h1,h2,h3,h4⟩:=hx;exact⟨A,k,vr,hι.trans h1,h2,h3,h4⟩
 | gone v=>cases h
 | mp v rows=>
  simp only[eI] at h
  cases h;obtain⟨g,es,k,h1,h2,h3,h4⟩:=hx;exact⟨g,es,k,hι.trans h1,h2,h3,h4⟩
 | lp v l=>
  simp only[eI] at h
  split at h<;>cases h
  rename_i j hj;obtain⟨g,L,gd,h1,h2,h3,h4,h5,h6,h7,h8,h9,h10,h11,h12⟩:=hx;exact⟨g,L,gd,hι.trans h1,h2,h3,h4,h5,h6,h7,h8,h9,Cc h10,(gl hj).trans h11,h12⟩
 | df v=>
  simp only[eI] at h
  cases h;obtain⟨gs,h1,h2,h3⟩:=hx;exact⟨gs,h1.of hι,h2,h3⟩
 | gh v vs ds=>
  simp only[eI] at h
  split at h<;>cases h
  rename_i ds' hds;exact cg hds hx
 | ab v a=>
  simp only[eI] at h
  cases h;obtain⟨g,h1,h2⟩:=hx;exact⟨g,hι.trans h1,h2⟩
theorem ji{h:List (Nat×B)}:∀{l:Rn} {i:Nat} {h':List (Nat×B)} {j:Nat} {x':B},dq m kc h l i=some h'→lk h' j=some x'→i≤j∧∃b x,l[j - i]?=some (b,x.ver)∧lk h b=some x∧eI m kc x=some x'
 | [],i,h',j,x',e,hj=>by simp only[dq] at e;cases e;cases hj
 | (b,v) :: l,i,h',j,x',e,hj=>by
  simp only[dq] at e
  split at e
  ·rename_i x hx
   cases hv:Nat.beq x.ver v with
   | false=>rw[hv] at e;cases e
   | true=>
    rw[hv] at e;simp only[cond_true] at e;have hv:=Nat.eq_of_beq_eq_true hv
    split at e<;>cases e
    rename_i y h2 hy hh;simp only[lk] at hj
    cases hij:Nat.beq i j with
    | true=>
     rw[hij] at hj;simp at hj;subst hj;have:=Nat.eq_of_beq_eq_true hij;subst this;exact⟨Nat.le_refl _,b,x,by simp[hv],hx,hy⟩
    | false=>
     rw[hij] at hj;obtain⟨q1,b',x1,q2,q3,q4⟩:=ji hh hj;refine⟨by omega,b',x1,?_,q3,q4⟩;rw[show j - i=(j - (i+1))+1 by omega];simpa using q2
  ·cases e
theorem o9{h:List (Nat×B)}:∀{l:Rn} {i:Nat} {h':List (Nat×B)} {j:Nat} {p:Nat×Nat},dq m kc h l i=some h'→l[j]?=some p→∃x',lk h' (i+j)=some x'
 | [],i,h',j,p,e,hj=>by simp at hj
 | (b,v) :: l,i,h',j,p,e,hj=>by
  simp only[dq] at e
  split at e
  ·rename_i x hx
   cases hv:Nat.beq x.ver v with
   | false=>rw[hv] at e;cases e
   | true=>
    rw[hv] at e;simp only[cond_true] at e
    split at e<;>cases e
    rename_i y h2 hy hh
    cases j with
    | zero=>exact⟨y,by simp[lk]⟩
    | succ j=>
     obtain⟨x',hx'⟩:=o9 (j:=j) (p:=p) hh (by simpa using hj);refine⟨x',?_⟩;simp only[lk];rw[show Nat.beq i (i+(j+1))=false from by rw[←Bool.not_eq_true];intro e;have:=Nat.eq_of_beq_eq_true e;omega];rw[show i+(j+1)=i+1+j by omega];exact hx'
  ·cases e
theorem nV:∀{m:Rn} {i j b v v':Nat},b8 m=true→m[i]?=some (b,v)→m[j]?=some (b,v')→i=j
 | [],i,j,b,v,v',_,hi,_=>by simp at hi
 | (b0,v0) :: m,i,j,b,v,v',h,hi,hj=>by
  simp only[b8,Bool.and_eq_true,Bool.not_eq_true',List.any_eq_false] at h;obtain⟨h1,h2⟩:=h
  cases i with
  | zero=>
   cases j with
   | zero=>rfl
   | succ j=>
    simp at hi hj;obtain⟨rfl,rfl⟩:=hi;exact absurd (by simp) (h1 _ (List.mem_of_getElem? hj))
  | succ i=>
   cases j with
   | zero=>
    simp at hi hj;obtain⟨rfl,rfl⟩:=hj;exact absurd (by simp) (h1 _ (List.mem_of_getElem? hi))
   | succ j=>
    simp at hi hj;rw[nV h2 hi hj]
theorem CN:∀{k k':List KI} {t:List Item},Ga m k=some k'→KIs c k t→KIs (rC m c) k' t
 | [],k',t,h,ht=>by simp only[Ga] at h;cases h;exact ht
 | x :: l,k',t,h,⟨it,t',e,hx,hl⟩=>by
  simp only[Ga] at h
  split at h<;>cases h
  rename_i y l' hy hl';refine⟨it,t',e,?_,CN hl' hl⟩
  cases x with
  | rf b v=>
   simp only at hy
   split at hy<;>cases hy
   rename_i i hi;obtain⟨g,h1,h2⟩:=hx;exact⟨g,h1,(gl hi).trans h2⟩
  | erf b v=>
   simp only at hy
   split at hy<;>cases hy
   rename_i i hi;obtain⟨g,h1,h2⟩:=hx;exact⟨g,h1,(gl hi).trans h2⟩
  | _=>simp only at hy;cases hy;exact hx
theorem Cq:∀{k k':List (Nat×Nat)} {t:List Deferred},FE m k=some k'→bx c k t→bx (rC m c) k' t
 | [],k',t,h,ht=>by simp only[FE] at h;cases h;exact ht
 | (b,v) :: l,k',t,h,⟨g,t',e,hx,hl⟩=>by
  simp only[FE] at h
  split at h<;>cases h
  rename_i i l' hi hl';exact⟨g,t',e,hx.of (gl hi),Cq hl' hl⟩
theorem Hx{r:Option (Nat×Nat)}{r':Option (Nat×Nat)}{t:Option Nat}(h:Db m r=some r')(ht:jE c r t):jE (rC m c) r' t:=by
 cases r with
 | none=>simp only[Db] at h;cases h;exact ht
 | some p=>
  simp only[Db] at h
  split at h<;>cases h
  rename_i i hi;obtain⟨g,h1,h2⟩:=ht;exact⟨g,h1,(gl hi).trans h2⟩
theorem yK{ks:List Nat}{f f':Fm}{fr:Frame}(h:yT m ks f=some f')(hf:tC c f fr):tC (rC m c) f' fr∧f'.f=f.f:=by
 simp only[yT] at h
 split at h<;>cases h
 rename_i k ds ro h1 h2 h3;obtain⟨a,todo,r,g1,g2,g3,g4,g5⟩:=hf;exact⟨⟨a,todo,r,g1,Cc g2,CN h1 g3,Cq h2 g4,Hx h3 g5⟩,rfl⟩
theorem uX:∀{l l':List Fm} {t:List Frame},kF m kc l=some l'→Fms c l t→Fms (rC m c) l' t
 | [],l',t,h,ht=>by simp only[kF] at h;cases h;exact ht
 | x :: l,l',t,h,⟨fr,t',e,hx,hl⟩=>by
  simp only[kF] at h
  split at h<;>cases h
  rename_i y l2 hy hl';exact⟨fr,t',e,(yK hy hx).1,uX hl' hl⟩
theorem qU:∀{l l':List Fm} {f f':Fm},f'.f=f.f→kF m kc l=some l'→eE f' l'=eE f l
 | [],l',f,f',e,h=>by simp only[kF] at h;cases h;exact e
 | x :: l,l',f,f',e,h=>by
  simp only[kF] at h
  split at h<;>cases h
  rename_i y l2 hy hl';show eE y l2=eE x l
  refine qU ?_ hl';simp only[yT] at hy
  split at hy<;>cases hy
  rfl
end
theorem Sn.cut{ρ:Type}[jl ρ]{P:Program}{X:Tx}{f0:Nat}{r:ρ}{m:Rn}{kc keys:List Nat}{g g':Cfg}(hc:Km.cut m kc keys g=some g')(h:Sn P X f0 r g'):Sn P X f0 r g:=by
 unfold Km.cut at hc
 cases ho:b8 m with
 | false=>rw[ho] at hc;cases hc
 | true=>
  rw[ho] at hc;simp only[cond_true] at hc
  split at hc<;>cases hc
  rename_i top cs h' h1 h2 h3;unfold Sn at h ⊢;intro W cs0 hΓ c O fr frs w hr;obtain⟨q1,q2⟩:=yK h1 hr.top;refine h W cs0 hΓ (rC m c) (rO m O) fr frs w ⟨q1,uX h2 hr.cs,⟨fun i x' hx'=>?_,fun i v y hy=>?_,fun i j g hi hj=>?_,fun g hg=>?_,fun i g hi=>?_⟩,⟨hr.old.os,hr.old.tape,hr.old.output,hr.old.size,hr.old.b4,fun i g hi=>?_,hr.old.mW,hr.old.le⟩,(qU q2 h2).trans hr.bot⟩
  ·obtain⟨_,b,x,k1,k2,k3⟩:=ji h3 hx';rw[Nat.sub_zero] at k1;have hS:rO m O i=O b:=funext fun g=>propext ⟨fun ⟨b',v',e,hO⟩=>by rw[k1] at e;cases e;exact hO,fun hO=>⟨b,_,k1,hO⟩⟩
   rw[hS];exact Dw k1 k3 (hr.hp.pc b x k2)
  ·simp only[rC,rι] at hy
   split at hy
   ·rename_i b v0 hm;obtain⟨x',hx'⟩:=o9 h3 hm;rw[Nat.zero_add] at hx';exact⟨x',hx',Nat.zero_le _⟩
   ·cases hy
  ·obtain⟨b,v,e1,o1⟩:=hi;obtain⟨b',v',e2,o2⟩:=hj;have:=hr.hp.apart b b' g o1 o2;subst this;exact nV ho e1 e2
  ·obtain⟨k1,k2,k3⟩:=hr.hp.fz g hg;exact⟨k1,k2,fun i ⟨b,v,_,o⟩=>k3 b o⟩
  ·obtain⟨b,v,_,o⟩:=hi;exact hr.hp.lt b g o
  ·obtain⟨b,v,_,o⟩:=hi;exact hr.old.own b g o
mutual
def hnd:D→List (Nat×Nat)
 | .ag l=>wA l
 | .tp l=>wA l
 | .cl _ l=>wA l
 | .mcl _ k l=>wA k++wA l
 | .ptr b v _=>[(b,v)]
 | .rp b v _ _ _=>[(b,v)]
 | .own b v=>[(b,v)]
 | .mv b v=>[(b,v)]
 | .yl b v=>[(b,v)]
 | .sub b v _ _ _ _=>[(b,v)]
 | _=>[]
def wA:List D→List (Nat×Nat)
 | []=>[]
 | d :: l=>hnd d++wA l
end
def I8(s:List (Nat×D)):List Nat→List (Nat×Nat)
 | []=>[]
 | k :: ks=>match lk s k with
  | some d=>hnd d++I8 s ks
  | none=>I8 s ks
def Jo:List KI→List (Nat×Nat)
 | []=>[]
 | .rf b v :: l=>(b,v) :: Jo l
 | .erf b v :: l=>(b,v) :: Jo l
 | _ :: l=>Jo l
def J6(keys:List Nat)(f:Fm):List (Nat×Nat):=I8 f.s keys++Jo f.k++f.ds++f.ro.toList
def NO(kc:List Nat):B→List (Nat×Nat)
 | .va _ _ cs=>wA cs
 | .lp _ l=>(l.db,l.dv) :: I8 l.s kc
 | .gh _ _ ds=>wA ds
 | _=>[]
def MV(h:List (Nat×B))(b v:Nat):Bool:=match lk h b with
 | some (.gone _)=>false
 | some x=>Nat.beq x.ver v
 | none=>false
def reach(kc:List Nat)(h:List (Nat×B)):Nat→List (Nat×Nat)→Rn→Rn
 | 0,_,m=>m
 | _,[],m=>m
 | n+1,(b,v) :: l,m=>bif m.any (fun p=>Nat.beq p.1 b) || !MV h b v then reach kc h n l m else reach kc h n (NO kc ((lk h b).getD (.gone 0))++l) (m++[(b,v)])
def na:List (Nat×B)→List (Nat×Nat)
 | []=>[]
 | (b,.gh v _ _) :: l=>(b,v) :: na l
 | _ :: l=>na l
def roots(kc keys:List Nat)(g:Cfg):List (Nat×Nat):=J6 keys g.top++(g.cs.flatMap fun f=>J6 kc f)++na g.h
def short(kc keys:List Nat)(g:Cfg):Option Cfg:=cut (reach kc g.h 10000 (roots kc keys g) []) kc keys g
theorem Sn.short{ρ:Type}[jl ρ]{P:Program}{X:Tx}{f0:Nat}{r:ρ}(kc keys:List Nat){g g':Cfg}(hc:Km.short kc keys g=some g')(h:Sn P X f0 r g'):Sn P X f0 r g:=Sn.cut hc h
end Go.Km
end
section
namespace Go.Proofs.YtoklkjkmbfebjaaGreatDoor
open Go Go.Sl Go.Vc Go.Km
set_option maxRecDepth 100000
noncomputable def fiR(f:Func):Fi:=⟨f.body.getD .skip,f.ntmps,f.results.toList⟩
def DW(f:Nat)(i:Fi):Prop:=CF Tryz.prog f∧∃fn,Tryz.prog.funcs[f]?=some fn∧fn.body=some i.body∧fn.ntmps=i.N∧fn.results.toList=i.rs
theorem fk{f:Nat}{fn:Func}(h:Tryz.prog.funcs[f]?=some fn)(c:(!(fn.name== "runtime.NumGoroutine") && !fn.body.isNone)=true:=by kernel_rfl):DW f (fiR fn):=by
 rw[Bool.and_eq_true,Bool.not_eq_true',Bool.not_eq_true'] at c;refine⟨CF.of h c.1 c.2,fn,h,?_,rfl,rfl⟩
 cases hb:fn.body with
 | none=>rw[hb] at c;cases c.2
 | some b=>show some b=some (fn.body.getD .skip);rw[hb];rfl
noncomputable def fiL:List (Nat×Fi):=[(3,fiR Tryz.f3),(4,fiR Tryz.f4),(5,fiR Tryz.f5),(6,fiR Tryz.f6),(7,fiR Tryz.f7),(8,fiR Tryz.f8),(9,fiR Tryz.f9),(10,fiR Tryz.f10),(11,fiR Tryz.f11),(12,fiR Tryz.f12),(13,fiR Tryz.f13),(14,fiR Tryz.f14),(15,fiR Tryz.f15),(16,fiR Tryz.f16),(17,fiR Tryz.f17),(18,fiR Tryz.f18),(19,fiR Tryz.f19),(20,fiR Tryz.f20),(21,fiR Tryz.f21),(22,fiR Tryz.f22),(23,fiR Tryz.f23),(24,fiR Tryz.f24),(25,fiR Tryz.f25),(26,fiR Tryz.f26),(27,fiR Tryz.f27),(28,fiR Tryz.f28),(29,fiR Tryz.f29),(30,fiR Tryz.f30),(31,fiR Tryz.f31),(32,fiR Tryz.f32),(33,fiR Tryz.f33),(34,fiR Tryz.f34),(35,fiR Tryz.f35),(36,fiR Tryz.f36),(37,fiR Tryz.f37),(38,fiR Tryz.f38),(39,fiR Tryz.f39),(40,fiR Tryz.f40),(41,fiR Tryz.f41),(42,fiR Tryz.f42),(43,fiR Tryz.f43),(44,fiR Tryz.f44),(45,fiR Tryz.f45),(46,fiR Tryz.f46),(47,fiR Tryz.f47),(48,fiR Tryz.f48),(49,fiR Tryz.f49),(50,fiR Tryz.f50),(51,fiR Tryz.f51),(52,fiR Tryz.f52),(53,fiR Tryz.f53),(54,fiR Tryz.f54),(55,fiR Tryz.f55),(56,fiR Tryz.f56),(57,fiR Tryz.f57),(58,fiR Tryz.f58),(59,fiR Tryz.f59),(60,fiR Tryz.f60),(61,fiR Tryz.f61),(62,fiR Tryz.f62),(63,fiR Tryz.f63),(64,fiR Tryz.f64),(65,fiR Tryz.f65),(66,fiR Tryz.f66),(67,fiR Tryz.f67),(68,fiR Tryz.f68),(69,fiR Tryz.f69),(70,fiR Tryz.f70),(71,fiR Tryz.f71),(72,fiR Tryz.f72),(73,fiR Tryz.f73),(74,fiR Tryz.f74),(75,fiR Tryz.f75),(76,fiR Tryz.f76),(77,fiR Tryz.f77),(78,fiR Tryz.f78),(79,fiR Tryz.f79),(80,fiR Tryz.f80),(81,fiR Tryz.f81),(82,fiR Tryz.f82),(83,fiR Tryz.f83),(84,fiR Tryz.f84),(85,fiR Tryz.f85),(86,fiR Tryz.f86),(87,fiR Tryz.f87),(88,fiR Tryz.f88),(89,fiR Tryz.f89),(90,fiR Tryz.f90),(91,fiR Tryz.f91),(92,fiR Tryz.f92),(93,fiR Tryz.f93),(94,fiR Tryz.f94),(95,fiR Tryz.f95),(96,fiR Tryz.f96),(97,fiR Tryz.f97),(98,fiR Tryz.f98),(99,fiR Tryz.f99),(100,fiR Tryz.f100),(101,fiR Tryz.f101),(102,fiR Tryz.f102),(103,fiR Tryz.f103),(104,fiR Tryz.f104),(105,fiR Tryz.f105),(106,fiR Tryz.f106),(107,fiR Tryz.f107),(108,fiR Tryz.f108),(109,fiR Tryz.f109),(110,fiR Tryz.f110),(111,fiR Tryz.f111),(112,fiR Tryz.f112),(113,fiR Tryz.f113),(114,fiR Tryz.f114),(115,fiR Tryz.f115),(116,fiR Tryz.f116),(117,fiR Tryz.f117),(118,fiR Tryz.f118),(119,fiR Tryz.f119),(120,fiR Tryz.f120),(121,fiR Tryz.f121),(122,fiR Tryz.f122),(123,fiR Tryz.f123),(124,fiR Tryz.f124),(125,fiR Tryz.f125),(126,fiR Tryz.f126),(127,fiR Tryz.f127),(128,fiR Tryz.f128),(129,fiR Tryz.f129),(130,fiR Tryz.f130),(131,fiR Tryz.f131),(132,fiR Tryz.f132),(133,fiR Tryz.f133),(134,fiR Tryz.f134),(135,fiR Tryz.f135),(136,fiR Tryz.f136),(137,fiR Tryz.f137),(138,fiR Tryz.f138),(139,fiR Tryz.f139),(140,fiR Tryz.f140),(141,fiR Tryz.f141),(142,fiR Tryz.f142),(143,fiR Tryz.f143),(144,fiR Tryz.f144),(146,fiR Tryz.f146),(147,fiR Tryz.f147),(148,fiR Tryz.f148),(149,fiR Tryz.f149),(150,fiR Tryz.f150),(151,fiR Tryz.f151),(152,fiR Tryz.f152),(153,fiR Tryz.f153),(154,fiR Tryz.f154),(155,fiR Tryz.f155),(156,fiR Tryz.f156),(157,fiR Tryz.f157),(158,fiR Tryz.f158),(159,fiR Tryz.f159),(160,fiR Tryz.f160),(161,fiR Tryz.f161),(163,fiR Tryz.f163),(164,fiR Tryz.f164)]
theorem Ig:∀(l:List (Nat×Fi)),(∀p∈l,DW p.1 p.2)→∀f i,Vc.lk l f=some i→DW f i
 | [],_,f,i,h=>by cases h
 | (k,x) :: l,hl,f,i,h=>by
  simp only[Vc.lk] at h
  cases e:Nat.beq k f with
  | true=>
   rw[e] at h;simp at h;subst h;have:=Nat.eq_of_beq_eq_true e;subst this;exact hl (k,x) (by simp)
  | false=>
   rw[e] at h;exact Ig l (fun p hp=>hl p (by simp[hp])) f i h
def yc:List (Nat×Fi)→Prop
 | []=>True
 | p :: l=>DW p.1 p.2∧yc l
theorem yc.mem:∀{l:List (Nat×Fi)},yc l→∀p∈l,DW p.1 p.2
 | [],_,p,h=>by cases h
 | q :: l,⟨h1,h2⟩,p,h=>by
  rcases List.mem_cons.1 h with rfl|h
  ·exact h1
  ·exact yc.mem h2 p h
theorem Iu:∀f i,Vc.lk fiL f=some i→DW f i:=Ig fiL (yc.mem (⟨fk Tryz.func3,⟨fk Tryz.func4,⟨fk Tryz.func5,⟨fk Tryz.func6,⟨fk Tryz.func7,⟨fk Tryz.func8,⟨fk Tryz.func9,⟨fk Tryz.func10,⟨fk Tryz.func11,⟨fk Tryz.func12,⟨fk Tryz.func13,⟨fk Tryz.func14,⟨fk Tryz.func15,⟨fk Tryz.func16,⟨fk Tryz.func17,⟨fk Tryz.func18,⟨fk Tryz.func19,⟨fk Tryz.func20,⟨fk Tryz.func21,⟨fk Tryz.func22,⟨fk Tryz.func23,⟨fk Tryz.func24,⟨fk Tryz.func25,⟨fk Tryz.func26,⟨fk Tryz.func27,⟨fk Tryz.func28,⟨fk Tryz.func29,⟨fk Tryz.func30,⟨fk Tryz.func31,⟨fk Tryz.func32,⟨fk Tryz.func33,⟨fk Tryz.func34,⟨fk Tryz.func35,⟨fk Tryz.func36,⟨fk Tryz.func37,⟨fk Tryz.func38,⟨fk Tryz.func39,⟨fk Tryz.func40,⟨fk Tryz.func41,⟨fk Tryz.func42,⟨fk Tryz.func43,⟨fk Tryz.func44,⟨fk Tryz.func45,⟨fk Tryz.func46,⟨fk Tryz.func47,⟨fk Tryz.func48,⟨fk Tryz.func49,⟨fk Tryz.func50,⟨fk Tryz.func51,⟨fk Tryz.func52,⟨fk Tryz.func53,⟨fk Tryz.func54,⟨fk Tryz.func55,⟨fk Tryz.func56,⟨fk Tryz.func57,⟨fk Tryz.func58,⟨fk Tryz.func59,⟨fk Tryz.func60,⟨fk Tryz.func61,⟨fk Tryz.func62,⟨fk Tryz.func63,⟨fk Tryz.func64,⟨fk Tryz.func65,⟨fk Tryz.func66,⟨fk Tryz.func67,⟨fk Tryz.func68,⟨fk Tryz.func69,⟨fk Tryz.func70,⟨fk Tryz.func71,⟨fk Tryz.func72,⟨fk Tryz.func73,⟨fk Tryz.func74,⟨fk Tryz.func75,⟨fk Tryz.func76,⟨fk Tryz.func77,⟨fk Tryz.func78,⟨fk Tryz.func79,⟨fk Tryz.func80,⟨fk Tryz.func81,⟨fk Tryz.func82,⟨fk Tryz.func83,⟨fk Tryz.func84,⟨fk Tryz.func85,⟨fk Tryz.func86,⟨fk Tryz.func87,⟨fk Tryz.func88,⟨fk Tryz.func89,⟨fk Tryz.func90,⟨fk Tryz.func91,⟨fk Tryz.func92,⟨fk Tryz.func93,⟨fk Tryz.func94,⟨fk Tryz.func95,⟨fk Tryz.func96,⟨fk Tryz.func97,⟨fk Tryz.func98,⟨fk Tryz.func99,⟨fk Tryz.func100,⟨fk Tryz.func101,⟨fk Tryz.func102,⟨fk Tryz.func103,⟨fk Tryz.func104,⟨fk Tryz.func105,⟨fk Tryz.func106,⟨fk Tryz.func107,⟨fk Tryz.func108,⟨fk Tryz.func109,⟨fk Tryz.func110,⟨fk Tryz.func111,⟨fk Tryz.func112,⟨fk Tryz.func113,⟨fk Tryz.func114,⟨fk Tryz.func115,⟨fk Tryz.func116,⟨fk Tryz.func117,⟨fk Tryz.func118,⟨fk Tryz.func119,⟨fk Tryz.func120,⟨fk Tryz.func121,⟨fk Tryz.func122,⟨fk Tryz.func123,⟨fk Tryz.func124,⟨fk Tryz.func125,⟨fk Tryz.func126,⟨fk Tryz.func127,⟨fk Tryz.func128,⟨fk Tryz.func129,⟨fk Tryz.func130,⟨fk Tryz.func131,⟨fk Tryz.func132,⟨fk Tryz.func133,⟨fk Tryz.func134,⟨fk Tryz.func135,⟨fk Tryz.func136,⟨fk Tryz.func137,⟨fk Tryz.func138,⟨fk Tryz.func139,⟨fk Tryz.func140,⟨fk Tryz.func141,⟨fk Tryz.func142,⟨fk Tryz.func143,⟨fk Tryz.func144,⟨fk Tryz.func146,⟨fk Tryz.func147,⟨fk Tryz.func148,⟨fk Tryz.func149,⟨fk Tryz.func150,⟨fk Tryz.func151,⟨fk Tryz.func152,⟨fk Tryz.func153,⟨fk Tryz.func154,⟨fk Tryz.func155,⟨fk Tryz.func156,⟨fk Tryz.func157,⟨fk Tryz.func158,⟨fk Tryz.func159,⟨fk Tryz.func160,⟨fk Tryz.func161,⟨fk Tryz.func163,⟨fk Tryz.func164,trivial⟩⟩⟩⟩⟩⟩⟩⟩⟩⟩⟩⟩⟩⟩⟩⟩⟩⟩⟩⟩⟩⟩⟩⟩⟩⟩⟩⟩⟩⟩⟩⟩⟩⟩⟩⟩⟩⟩⟩⟩⟩⟩⟩⟩⟩⟩⟩⟩⟩⟩⟩⟩⟩⟩⟩⟩⟩⟩⟩⟩⟩⟩⟩⟩⟩⟩⟩⟩⟩⟩⟩⟩⟩⟩⟩⟩⟩⟩⟩⟩⟩⟩⟩⟩⟩⟩⟩⟩⟩⟩⟩⟩⟩⟩⟩⟩⟩⟩⟩⟩⟩⟩⟩⟩⟩⟩⟩⟩⟩⟩⟩⟩⟩⟩⟩⟩⟩⟩⟩⟩⟩⟩⟩⟩⟩⟩⟩⟩⟩⟩⟩⟩⟩⟩⟩⟩⟩⟩⟩⟩⟩⟩⟩⟩⟩⟩⟩⟩⟩⟩⟩⟩⟩⟩⟩⟩⟩⟩⟩⟩))
def Kx:List (Nat×List F):=[(0,[.vl (.int .i64 0),.vl (.int .i64 0),.vl (.int .i64 0),.vl (.int .i64 0),.vl (.int .i64 0),.vl (.int .i64 0),.vl (.int .i64 0),.vl (.int .i64 0),.vl (.int .i64 2),.vl (.int .i64 (-1)),.vl (.int .i64 2),.vl (.int .i64 (-1)),.vl (.int .i64 1),.vl (.int .i64 1),.vl (.int .i64 1),.vl (.int .i64 1),.vl (.int .i64 1),.vl (.int .i64 1),.vl (.int .i64 1),.vl (.int .i64 1)]),
 (1,[.vl (.string ⟨#[]⟩),.vl (.string ⟨#[]⟩),.vl (.string ⟨#[]⟩),.vl (.string ⟨#[]⟩),.vl (.string ⟨#[]⟩),.vl (.string ⟨#[]⟩),.vl (.string ⟨#[]⟩),.vl (.string ⟨#[]⟩),.vl (.string ⟨#[]⟩),.vl (.string ⟨#[]⟩),.vl (.string ⟨#[]⟩),.vl (.string ⟨#[]⟩),.vl (.string ⟨#[]⟩),.vl (.string ⟨#[32]⟩),.vl (.string ⟨#[]⟩),.vl (.string ⟨#[]⟩),.vl (.string ⟨#[32,47,32]⟩),.vl (.string ⟨#[]⟩),.vl (.string ⟨#[]⟩),.vl (.string ⟨#[]⟩),.vl (.string ⟨#[]⟩),.vl (.string ⟨#[38]⟩),.vl (.string ⟨#[]⟩),.vl (.string ⟨#[]⟩),.vl (.string ⟨#[33]⟩),.vl (.string ⟨#[]⟩),.vl (.string ⟨#[]⟩),.vl (.string ⟨#[60]⟩),.vl (.string ⟨#[]⟩),.vl (.string ⟨#[62]⟩)]),
 (2,[.vl (.int .i64 0),.vl (.int .i64 1),.vl (.string ⟨#[63]⟩),.vl (.int .i64 0),.vl (.int .i64 (-1)),.vl (.string ⟨#[42]⟩),.vl (.int .i64 1),.vl (.int .i64 (-1)),.vl (.string ⟨#[43]⟩)]),
 (3,[.vl (.int .u8 0),.vl (.int .u8 1),.vl (.int .u8 56),.vl (.int .u8 2),.vl (.int .u8 57),.vl (.int .u8 49),.vl (.int .u8 28),.vl (.int .u8 3),.vl (.int .u8 61),.vl (.int .u8 58),.vl (.int .u8 42),.vl (.int .u8 50),.vl (.int .u8 38),.vl (.int .u8 29),.vl (.int .u8 17),.vl (.int .u8 4),.vl (.int .u8 62),.vl (.int .u8 47),.vl (.int .u8 59),.vl (.int .u8 36),.vl (.int .u8 45),.vl (.int .u8 43),.vl (.int .u8 51),.vl (.int .u8 22),.vl (.int .u8 53),.vl (.int .u8 39),.vl (.int .u8 33),.vl (.int .u8 30),.vl (.int .u8 24),.vl (.int .u8 18),.vl (.int .u8 12),.vl (.int .u8 5),.vl (.int .u8 63),.vl (.int .u8 55),.vl (.int .u8 48),.vl (.int .u8 27),.vl (.int .u8 60),.vl (.int .u8 41),.vl (.int .u8 37),.vl (.int .u8 16),.vl (.int .u8 46),.vl (.int .u8 35),.vl (.int .u8 44),.vl (.int .u8 21),.vl (.int .u8 52),.vl (.int .u8 32),.vl (.int .u8 23),.vl (.int .u8 11),.vl (.int .u8 54),.vl (.int .u8 26),.vl (.int .u8 40),.vl (.int .u8 15),.vl (.int .u8 34),.vl (.int .u8 20),.vl (.int .u8 31),.vl (.int .u8 10),.vl (.int .u8 25),.vl (.int .u8 14),.vl (.int .u8 19),.vl (.int .u8 9),.vl (.int .u8 13),.vl (.int .u8 8),.vl (.int .u8 7),.vl (.int .u8 6)]),
 (5,[.vl (.int .u64 1),.vl (.int .u64 10),.vl (.int .u64 100),.vl (.int .u64 1000),.vl (.int .u64 10000),.vl (.int .u64 100000),.vl (.int .u64 1000000),.vl (.int .u64 10000000),.vl (.int .u64 100000000),.vl (.int .u64 1000000000),.vl (.int .u64 10000000000),.vl (.int .u64 100000000000),.vl (.int .u64 1000000000000),.vl (.int .u64 10000000000000),.vl (.int .u64 100000000000000),.vl (.int .u64 1000000000000000),.vl (.int .u64 10000000000000000),.vl (.int .u64 100000000000000000),.vl (.int .u64 1000000000000000000),.vl (.int .u64 10000000000000000000)]),
 (6,[.vl (.int .u8 0),.vl (.int .u8 1),.vl (.int .u8 28),.vl (.int .u8 2),.vl (.int .u8 29),.vl (.int .u8 14),.vl (.int .u8 24),.vl (.int .u8 3),.vl (.int .u8 30),.vl (.int .u8 22),.vl (.int .u8 20),.vl (.int .u8 15),.vl (.int .u8 25),.vl (.int .u8 17),.vl (.int .u8 4),.vl (.int .u8 8),.vl (.int .u8 31),.vl (.int .u8 27),.vl (.int .u8 13),.vl (.int .u8 23),.vl (.int .u8 21),.vl (.int .u8 19),.vl (.int .u8 16),.vl (.int .u8 7),.vl (.int .u8 26),.vl (.int .u8 12),.vl (.int .u8 18),.vl (.int .u8 6),.vl (.int .u8 11),.vl (.int .u8 5),.vl (.int .u8 10),.vl (.int .u8 9)])]
end Go.Proofs.YtoklkjkmbfebjaaGreatDoor
end
section
namespace Go.Km
open Go Go.RowKit Go.Vc
open Go.Sl hiding lk
abbrev gz(c:Bool)(k:Prop):Prop:=@Bool.rec (fun _=>Prop) False k c
abbrev m9(c:Bool)(a b:Prop):Prop:=@Bool.rec (fun _=>Prop) b a c
abbrev zp{α:Type}(o:Option α)(k:α→Prop):Prop:=@Option.rec α (fun _=>Prop) False k o
abbrev MM(n:Int)(k:Nat→Prop):Prop:=@Int.rec (fun _=>Prop) k (fun _=>False) n
structure FJ(n:Int)(k:Int→Prop):Prop where
 h:∃m,n=m∧k m
structure fe(P:Program)(Γ:Nat→Option (List F))(f:Nat)(l:List F)(k:F×Bool→Prop):Prop where
 h:∃x:F×Bool,Pure P Γ f l x.1 x.2∧k x
structure dR(P:Program)(Γ:Nat→Option (List F))(t:Nat)(η:Env)(f:Nat)(l:List D)(k:Kr Prop):Prop where
 h:∃d rd e,dp P Γ η f l d rd e∧k d rd e
structure u6(P:Program)(Γ:Nat→Option (List F))(t:Nat)(η:Env)(b v:Nat)(l:List D)(k:Kr Prop):Prop where
 h:∃d rd e,wg P Γ η b v l d rd e∧k d rd e
structure ao(x r:F×Bool):Prop where
 h:x.1=r.1∧(r.2=true→x.2=true)
def alQ:Al Prop where
 bot:=False
 ak:=gz
 nS:=m9
 bh xs i k:=zp xs[i]? k
 cE:=MM
 jm:=FJ
theorem KR:ux alQ (fun p=>p) where
 bot h:=h
 ak {c k} h:=by cases c with
  | true=>exact⟨rfl,h⟩
  | false=>exact h.elim
 nS {c a b} h:=by cases c with
  | true=>exact⟨fun _=>h,fun e=>(by cases e)⟩
  | false=>exact⟨fun e=>(by cases e),fun _=>h⟩
 bh {α xs i k} h:=by
  revert h
  show zp xs[i]? k→_
  cases xs[i]? with
  | some x=>exact fun h=>⟨x,rfl,h⟩
  | none=>exact fun h=>h.elim
 cE {n k} h:=by
  cases n with
  | ofNat i=>exact⟨i,rfl,h⟩
  | negSucc i=>exact h.elim
 jm h:=let ⟨⟨m,e,h⟩⟩:=h;e▸h
section
variable {R:Type}
def bG(n:Nat)(k:Nat→R):R:=match n with
 | 0=>k 0
 | 1=>k 1
 | n+2=>k (n+2)
def z5{α:Type}:List α→(List α→R)→R
 | [],k=>k []
 | a :: l,k=>z5 l fun l=>k (a :: l)
mutual
def D.fo:D→(D→R)→R
 | .fr x,k=>k (.fr x)
 | .ag cs,k=>D.fos cs fun cs=>k (.ag cs)
 | .tp cs,k=>D.fos cs fun cs=>k (.tp cs)
 | .cl f cs,k=>D.fos cs fun cs=>k (.cl f cs)
 | .ptr b v o,k=>bG b fun b=>bG v fun v=>k (.ptr b v o)
 | .rp b v sz i o,k=>bG b fun b=>bG v fun v=>bG o fun o=>k (.rp b v sz i o)
 | .own b v,k=>bG b fun b=>bG v fun v=>k (.own b v)
 | .mv b v,k=>bG b fun b=>bG v fun v=>k (.mv b v)
 | .yl b v,k=>bG b fun b=>bG v fun v=>k (.yl b v)
 | .sub b v sz lo hi ex,k=>bG b fun b=>bG v fun v=>k (.sub b v sz lo hi ex)
 | .fx rows,k=>k (.fx rows)
 | .mcl f fs cs,k=>D.fos fs fun fs=>D.fos cs fun cs=>k (.mcl f fs cs)
def D.fos:List D→(List D→R)→R
 | [],k=>k []
 | x :: l,k=>D.fo x fun x=>D.fos l fun l=>k (x :: l)
end
def oN:List (Nat×D)→(List (Nat×D)→R)→R
 | [],k=>k []
 | (t,d) :: l,k=>D.fo d fun d=>oN l fun l=>k ((t,d) :: l)
def cdF(c:Code)(k:Code→R):R:=match c with
 | .seq a b=>k (.seq a b)
 | .region i o d=>k (.region i o d)
 | .block i b=>k (.block i b)
 | c=>k c
theorem Mi(c:Code)(k:Code→R):cdF c k=k c:=by cases c<;>rfl
def B.fo(x:B)(k:B→R):R:=match x with
 | .va v t cs=>bG v fun v=>D.fos cs fun cs=>k (.va v t cs)
 | .ro v e sz rows=>bG v fun v=>k (.ro v e sz rows)
 | .gone v=>bG v fun v=>k (.gone v)
 | .mp v rows=>bG v fun v=>k (.mp v rows)
 | .lp v ⟨st,gI,f,N,s,ps,asg,body,db,dv⟩=>bG v fun v=>bG st fun st=>bG f fun f=>bG N fun N=>z5 ps fun ps=>cdF asg fun asg=>cdF body fun body=>(match gI with
  | some c=>oN s fun s=>bG db fun db=>bG dv fun dv=>k (.lp v ⟨st,some c,f,N,s,ps,asg,body,db,dv⟩)
  | none=>oN s fun s=>bG db fun db=>bG dv fun dv=>k (.lp v ⟨st,none,f,N,s,ps,asg,body,db,dv⟩))
 | .df v=>bG v fun v=>k (.df v)
 | .gh v vs ds=>bG v fun v=>D.fos ds fun ds=>k (.gh v vs ds)
 | .ab v a=>bG v fun v=>k (.ab v a)
def tf:List (Nat×B)→(List (Nat×B)→R)→R
 | [],k=>k []
 | (b,x) :: l,k=>bG b fun b=>B.fo x fun x=>tf l fun l=>k ((b,x) :: l)
def oU:List (Nat×B)→List (Nat×B)→(List (Nat×B)→R)→R
 | [],h,k=>k h
 | (b,x) :: l,h,k=>bG b fun b=>B.fo x fun x=>oU l h fun l=>k ((b,x) :: l)
mutual
def F.fo:F→(F→R)→R
 | .ag cs,k=>F.fos cs fun cs=>k (.ag cs)
 | .tp cs,k=>F.fos cs fun cs=>k (.tp cs)
 | .cl f cs,k=>F.fos cs fun cs=>k (.cl f cs)
 | .vl x,k=>k (.vl x)
 | .sl x,k=>k (.sl x)
 | .pt sz rows i o,k=>k (.pt sz rows i o)
 | .mp x,k=>k (.mp x)
def F.fos:List F→(List F→R)→R
 | [],k=>k []
 | x :: l,k=>F.fo x fun x=>F.fos l fun l=>k (x :: l)
end
def Dj(p:Option (Nat×Nat))(k:Option (Nat×Nat)→R):R:=match p with
 | none=>k none
 | some (a,b)=>bG a fun a=>bG b fun b=>k (some (a,b))
def kx:List (Nat×Nat)→(List (Nat×Nat)→R)→R
 | [],k=>k []
 | (a,b) :: l,k=>bG a fun a=>bG b fun b=>kx l fun l=>k ((a,b) :: l)
def kiF:List KI→(List KI→R)→R
 | [],k=>k []
 | x :: l,k=>(match x with
  | .code c=>kiF l fun l=>k (.code c :: l)
  | .blk i=>kiF l fun l=>k (.blk i :: l)
  | .loop c=>kiF l fun l=>k (.loop c :: l)
  | .scope c=>kiF l fun l=>k (.scope c :: l)
  | .reg o p=>kiF l fun l=>k (.reg o p :: l)
  | .rf b v=>bG b fun b=>bG v fun v=>kiF l fun l=>k (.rf b v :: l)
  | .erf b v=>bG b fun b=>bG v fun v=>kiF l fun l=>k (.erf b v :: l)
  | .br=>kiF l fun l=>k (.br :: l))
def fmF(f:Fm)(k:Fm→R):R:=match f with
 | ⟨f,N,s,ki,ds,ro⟩=>bG f fun f=>bG N fun N=>oN s fun s=>kiF ki fun ki=>kx ds fun ds=>Dj ro fun ro=>k ⟨f,N,s,ki,ds,ro⟩
def JX:List Fm→(List Fm→R)→R
 | [],k=>k []
 | f :: l,k=>fmF f fun f=>JX l fun l=>k (f :: l)
theorem bf(n:Nat)(k:Nat→R):bG n k=k n:=by
 match n with
 | 0=>rfl
 | 1=>rfl
 | n+2=>rfl
theorem tJ{α:Type}:∀(l:List α) (k:List α→R),z5 l k=k l
 | [],_=>rfl
 | a :: l,k=>by unfold z5;exact tJ l _
mutual
theorem D.kg:∀(d:D) (k:D→R),D.fo d k=k d
 | .fr x,k=>by simp only[D.fo]
 | .ag cs,k=>by unfold D.fo;exact D.cn cs _
 | .tp cs,k=>by unfold D.fo;exact D.cn cs _
 | .cl f cs,k=>by unfold D.fo;exact D.cn cs _
 | .ptr b v o,k=>by simp only[D.fo,bf]
 | .rp b v sz i o,k=>by simp only[D.fo,bf]
 | .own b v,k=>by simp only[D.fo,bf]
 | .mv b v,k=>by simp only[D.fo,bf]
 | .yl b v,k=>by simp only[D.fo,bf]
 | .sub b v sz lo hi ex,k=>by simp only[D.fo,bf]
 | .fx rows,k=>by simp only[D.fo]
 | .mcl f fs cs,k=>by unfold D.fo;rw[D.cn fs];exact D.cn cs _
theorem D.cn:∀(l:List D) (k:List D→R),D.fos l k=k l
 | [],k=>by simp only[D.fos]
 | x :: l,k=>by unfold D.fos;rw[D.kg x];exact D.cn l _
end
theorem jn:∀(l:List (Nat×D)) (k:List (Nat×D)→R),oN l k=k l
 | [],k=>rfl
 | (t,d) :: l,k=>by unfold oN;rw[D.kg];exact jn l _
theorem B.kg(x:B)(k:B→R):B.fo x k=k x:=by
 cases x with
 | va v t cs=>simp only[B.fo,bf,D.cn]
 | ro v e sz rows=>simp only[B.fo,bf]
 | gone v=>simp only[B.fo,bf]
 | mp v rows=>simp only[B.fo,bf]
 | lp v l=>obtain⟨st,gI,f,N,s,ps,asg,body,db,dv⟩:=l;cases gI<;>simp only[B.fo,bf,jn,tJ,Mi]
 | df v=>simp only[B.fo,bf]
 | gh v vs ds=>simp only[B.fo,bf,D.cn]
 | ab v a=>simp only[B.fo,bf]
theorem mr:∀(l:List (Nat×B)) (k:List (Nat×B)→R),tf l k=k l
 | [],k=>rfl
 | (b,x) :: l,k=>by unfold tf;rw[bf,B.kg];exact mr l _
theorem l8:∀(e h:List (Nat×B)) (k:List (Nat×B)→R),oU e h k=k (e++h)
 | [],h,k=>rfl
 | (b,x) :: l,h,k=>by unfold oU;rw[bf,B.kg];exact l8 l h _
mutual
theorem F.kg:∀(x:F) (k:F→R),F.fo x k=k x
 | .ag cs,k=>by unfold F.fo;exact F.cn cs _
 | .tp cs,k=>by unfold F.fo;exact F.cn cs _
 | .cl f cs,k=>by unfold F.fo;exact F.cn cs _
 | .vl x,k=>by simp only[F.fo]
 | .sl x,k=>by simp only[F.fo]
 | .pt sz rows i o,k=>by simp only[F.fo]
 | .mp x,k=>by simp only[F.fo]
theorem F.cn:∀(l:List F) (k:List F→R),F.fos l k=k l
 | [],k=>by simp only[F.fos]
 | x :: l,k=>by unfold F.fos;rw[F.kg x];exact F.cn l _
end
theorem zr(p:Option (Nat×Nat))(k:Option (Nat×Nat)→R):Dj p k=k p:=by
 rcases p with _|⟨a,b⟩
 ·rfl
 ·simp only[Dj,bf]
theorem gP:∀(l:List (Nat×Nat)) (k:List (Nat×Nat)→R),kx l k=k l
 | [],k=>rfl
 | (a,b) :: l,k=>by unfold kx;rw[bf,bf];exact gP l _
theorem s9:∀(l:List KI) (k:List KI→R),kiF l k=k l
 | [],k=>rfl
 | x :: l,k=>by cases x<;>simp only[kiF,bf]<;>exact s9 l _
theorem KN(f:Fm)(k:Fm→R):fmF f k=k f:=by
 obtain⟨f,N,s,ki,ds,ro⟩:=f;simp only[fmF,bf,jn,s9,gP,zr]
theorem Cu:∀(l:List Fm) (k:List Fm→R),JX l k=k l
 | [],k=>rfl
 | f :: l,k=>by unfold JX;rw[KN];exact Cu l _
end
abbrev Kc(R:Type):=Nat→Nat→List (Nat×D)→List KI→List (Nat×Nat)→Option (Nat×Nat)→List Fm→List (Nat×B)→Nat→R
def Kc.un{R:Type}(K:Kc R)(c:Cfg):R:=K c.top.f c.top.N c.top.s c.top.k c.top.ds c.top.ro c.cs c.h c.nx
section
variable {R:Type} (al:Al R) (X:Tx) (O:Orc R) (fin:D→List (Nat×B)→R) (K:Kc R)
def nc(s:List (Nat×D))(dst:Option Nat)(d:D)(k:List (Nat×D)→R):R:=match dst with
 | some t=>D.fo d fun d=>k ((t,d) :: s)
 | none=>k s
def od(c:Fm)(d:D)(cs:List Fm)(h:List (Nat×B))(nx:Nat):R:=match c with
 | ⟨f,N,s,ki,ds,ro⟩=>match ki with
  | .reg ops (o :: l) :: k=>al.ak (dOk N o.dst) (nc s o.dst d fun s=>tf h fun h=>K f N s (.reg ops l :: k) ds ro cs h nx)
  | .rf b v :: k=>tf h fun h=>K f N s (.erf b v :: k) ds ro cs h nx
  | _=>al.bot
def Ji(f:Nat)(s:List (Nat×D))(ds:List (Nat×Nat))(cs:List Fm)(h:List (Nat×B))(nx:Nat):R:=match X.fi f with
 | some fi=>(match sw ds h with
  | some h=>(match jq (fi.rs.map (EB X.E ⟨s,h⟩)) with
   | some rs=>(match cs with
    | []=>al.ak (okR (oL rs)) (fin (oL rs) h)
    | c1 :: cs=>od al K c1 (oL rs) cs h nx)
   | none=>al.bot)
  | none=>al.bot)
 | none=>al.bot
def qm(f:Nat)(s:List (Nat×D))(ds:List (Nat×Nat))(ro:Option (Nat×Nat))(cs:List Fm)(h:List (Nat×B))(nx:Nat)(j:Option Code):R:=match ro with
 | none=>(match j with
  | none=>Ji al X fin K f s ds cs h nx
  | some .ret=>Ji al X fin K f s ds cs h nx
  | _=>al.bot)
 | some (b,v)=>(match lk h b,cs,ds with
  | some (.lp v' L),c1 :: cs,[]=>al.ak (Nat.beq v v') (od al K c1 (Bo j.isNone) cs ((b,.lp v { L with st:=bif j.isNone then 0 else 2,gI:=j }) :: h) nx)
  | some (.lp v' L),[],[]=>al.ak (Nat.beq v v') (fin (.mcl 0 [] [Bo j.isNone]) ((b,.lp v { L with st:=bif j.isNone then 0 else 2,gI:=j }) :: h))
  | _,_,_=>al.bot)
def m4(f:Nat)(l:List D)(cs:List Fm)(h:List (Nat×B))(nx:Nat):R:=bif X.hp f then (match cs with
 | c1 :: cs=>D.fos l fun l=>O.he nx (lk h) f l fun d _ e=>oU e h fun h=>bG (nx+1) fun nx=>od al K c1 d cs h nx
 | []=>al.bot) else match X.fi f with
 | some fi=>al.ak (Nat.ble l.length fi.N) (D.fos l fun l=>oN (mD 0 l) fun s=>K f fi.N s [.code fi.body] [] none cs h nx)
 | none=>al.bot
def x8(dr:Bool):CR R:=fun t η f l k=>match X.hp f with
 | true=>D.fos l fun l=>O.he t η f l k
 | false=>match X.bd f with
 | kind+1=>(match bdX X.E (X.bt f) X.u8 (kind+1) t η l with
 | some (d,rd,e)=>k d rd e
 | none=>al.bot)
 | 0=>match cz (D.toF η 6) l with
 | some (fl,is)=>F.fos fl fun fl=>O.pu f fl fun r=>match r with
  | (x,fr)=>F.fo x fun x=>bif x.flat||fr then k x.toD is [] else bif dr && !is.isEmpty then al.bot else k x.toD is (aS η is)
 | none=>al.bot
def Cb(f:Nat)(a:List D)(yes:Bool)(c:Fm)(cs:List Fm)(h:List (Nat×B))(nx:Nat)(put:Kr R):R:=bif yes then x8 al X O false nx (lk h) f a put else m4 al X O K f a (c :: cs) h nx
def Di(f N:Nat)(s:List (Nat×D))(ds:List (Nat×Nat))(ro:Option (Nat×Nat))(cs:List Fm)(h:List (Nat×B))(nx:Nat)(o:Oper)(ops:Array Oper)(l:List Oper)(k:List KI):R:=
 al.ak (dOk N o.dst) (match o.op with
  | .call ⟨.value x,args,tys⟩=>(match evD X.Γ s x,jq (args.toList.map (evD X.Γ s)) with
   | some (.cl g cp),some a=>Cb al X O K g (a++cp) (X.hp g||Nat.blt 0 (X.bd g)||(X.pu g && !gU (a++cp))) ⟨f,N,s,.reg ops (o :: l) :: k,ds,ro⟩ cs h nx fun d _ e=>nc s o.dst d fun s=>oU e h fun h=>bG (nx+1) fun nx=>K f N s (.reg ops l :: k) ds ro cs h nx
   | some (.fr (.cl g cp)),some a=>Cb al X O K g (a++cp.map F.toD) (X.hp g||Nat.blt 0 (X.bd g)||(X.pu g && !gU a)) ⟨f,N,s,.reg ops (o :: l) :: k,ds,ro⟩ cs h nx fun d _ e=>nc s o.dst d fun s=>oU e h fun h=>bG (nx+1) fun nx=>K f N s (.reg ops l :: k) ds ro cs h nx
   | some (.mcl g fs cp),some a=>Cb al X O K g (fs++a++cp) (X.hp g||Nat.blt 0 (X.bd g)||(X.pu g && !gU (fs++a++cp))) ⟨f,N,s,.reg ops (o :: l) :: k,ds,ro⟩ cs h nx fun d _ e=>nc s o.dst d fun s=>oU e h fun h=>bG (nx+1) fun nx=>K f N s (.reg ops l :: k) ds ro cs h nx
   | some (.yl b v),some a=>(match lk h b with
    | some (.lp v' L)=>al.ak (Nat.beq v v'&&Nat.beq a.length L.ps.length&&L.ps.all fun p=>Nat.blt p L.N)
      (oN (z9 L.ps a L.s) fun s'=>K L.f L.N s' [.code L.asg,.br,.code L.body] [] (some (b,v)) (⟨f,N,s,.reg ops (o :: l) :: k,ds,ro⟩ :: cs) h nx)
    | some (.ab v' _)=>al.ak (Nat.beq v v') (D.fos a fun a=>O.ye nx (lk h) b v a fun d _ e=>nc s o.dst d fun s=>oU e h fun h=>bG (nx+1) fun nx=>K f N s (.reg ops l :: k) ds ro cs h nx)
    | _=>al.bot)
   | _,_=>al.bot)
  | op=>opG al X.E (lk h) nx X.Q (fun _ _ _ _ _=>al.bot) (evD X.Γ s) op fun d _ e=>nc s o.dst d fun s=>oU e h fun h=>bG (nx+1) fun nx=>K f N s (.reg ops l :: k) ds ro cs h nx)
noncomputable def okE(ops:Array Oper)(acs:List Ac):Bool:=Classical.choose (p:=fun b=>b=okD ops acs) ⟨_,rfl⟩
theorem Ge(ops:Array Oper)(acs:List Ac):okE ops acs=okD ops acs:=Classical.choose_spec (p:=fun b=>b=okD ops acs) ⟨_,rfl⟩
noncomputable def zq(N:Nat)(b0:Nat)(ops:Array Oper)(K:List (Nat×D)→List (Nat×B)→R):List Ac→List Oper→List (Nat×D)→List (Nat×B)→R
 | acc,[],s,h=>al.ak (okE ops acc.reverse) (K s h)
 | acc,o :: l,s,h=>al.ak (dOk N o.dst) (match o.guard with
  | none=>opG al X.E (lk h) (b0+o.dst.getD 0) X.Q (x8 al X O true) (evD X.Γ s) o.op fun d rd e=>nc s o.dst d fun s=>oU e h fun h=>zq N b0 ops K (.ex d rd e :: acc) l s h
  | some (j,want)=>match gd ops j with
   | some dj=>al.ak (Nat.blt dj N) (match lk s dj with
    | some (.fr (.vl (.bool b)))=>al.nS (pS b want)
     (opG al X.E (lk h) (b0+o.dst.getD 0) X.Q (x8 al X O true) (evD X.Γ ((dj,.fr (.vl (.bool want))) :: s)) o.op fun d rd e=>nc ((dj,.fr (.vl (.bool want))) :: s) o.dst d fun s=>oU e h fun h=>zq N b0 ops K (.ex d rd e :: acc) l s h)
     (nc ((dj,.fr (.vl (.bool (!want)))) :: s) o.dst Un fun s=>zq N b0 ops K (.sk :: acc) l s h)
    | some (.fr (.vl (.tuple _)))=>nc s o.dst Un fun s=>zq N b0 ops K (.sk :: acc) l s h
    | _=>al.bot)
   | none=>al.bot)
def Bm(f N:Nat)(s:List (Nat×D))(k:List KI)(ds:List (Nat×Nat))(ro:Option (Nat×Nat))(cs:List Fm)(h:List (Nat×B))(nx:Nat)(x:Operand)(ps:Array Nat)(a b:Code):R:=match evD X.Γ s x with
 | some d=>(match ro with
  | none=>bG (nv (lk h) nx) fun v0=>bG (nx+1) fun nx1=>bG (nx+2) fun nx2=>bG (nv (up (lk h) nx (.df v0)) nx1) fun v=>
   (match d with
   | .cl g cp=>m4 al X O K g (.yl nx1 v :: cp) (⟨f,N,s,.rf nx1 v :: k,(nx,v0) :: ds,none⟩ :: cs) ((nx1,.lp v ⟨0,none,f,N,s,ps.toList,a,b,nx,v0⟩) :: (nx,.df v0) :: h) nx2
   | .fr (.cl g cp)=>m4 al X O K g (.yl nx1 v :: cp.map F.toD) (⟨f,N,s,.rf nx1 v :: k,(nx,v0) :: ds,none⟩ :: cs) ((nx1,.lp v ⟨0,none,f,N,s,ps.toList,a,b,nx,v0⟩) :: (nx,.df v0) :: h) nx2
   | _=>al.bot)
  | some (b0,u0)=>(match lk h b0 with
   | some (.lp v' L)=>al.ak (Nat.beq u0 v') (bG (nv (lk h) nx) fun v=>bG (nx+1) fun nx1=>
    match d with
    | .cl g cp=>m4 al X O K g (.yl nx v :: cp) (⟨f,N,s,.rf nx v :: k,ds,some (b0,u0)⟩ :: cs) ((nx,.lp v ⟨0,none,f,N,s,ps.toList,a,b,L.db,L.dv⟩) :: h) nx1
    | .fr (.cl g cp)=>m4 al X O K g (.yl nx v :: cp.map F.toD) (⟨f,N,s,.rf nx v :: k,ds,some (b0,u0)⟩ :: cs) ((nx,.lp v ⟨0,none,f,N,s,ps.toList,a,b,L.db,L.dv⟩) :: h) nx1
    | _=>al.bot)
   | _=>al.bot))
 | none=>al.bot
noncomputable def codeF(f N:Nat)(s:List (Nat×D))(k:List KI)(ds:List (Nat×Nat))(ro:Option (Nat×Nat))(cs:List Fm)(h:List (Nat×B))(nx:Nat)(cd:Code):R:=match cd with
 | .skip=>K f N s k ds ro cs h nx
 | .label _=>K f N s k ds ro cs h nx
 | .seq a b=>K f N s (.code a :: .code b :: k) ds ro cs h nx
 | .cond x a b=>Gp al ((evD X.Γ s x).getD Un) fun q=>al.nS q (K f N s (.code a :: k) ds ro cs h nx) (K f N s (.code b :: k) ds ro cs h nx)
 | .block id b=>K f N s (.code b :: .blk id :: k) ds ro cs h nx
 | .loop b=>K f N s (.loop b :: k) ds ro cs h nx
 | .scope b=>K f N s (.code b :: .scope b :: k) ds ro cs h nx
 | .exit id=>(match dH id k with
  | some k'=>kiF k' fun k'=>K f N s k' ds ro cs h nx
  | none=>qm al X fin K f s ds ro cs h nx (some (.exit id)))
 | .goto l=>(match dJ l k with
  | some k'=>kiF k' fun k'=>K f N s k' ds ro cs h nx
  | none=>qm al X fin K f s ds ro cs h nx (some (.goto l)))
 | .ret=>qm al X fin K f s ds ro cs h nx (some .ret)
 | .region id ops false=>z5 ops.toList fun l=>K f N s (.reg ops l :: k) ds ro cs h nx
 | .region id ops true=>al.ak (pj ops) <| zq al X O N nx ops (fun s h=>bG (nx+N) fun nx=>K f N s k ds ro cs h nx) [] ops.toList s h
 | .rangeFunc x ps a b=>Bm al X O K f N s k ds ro cs h nx x ps a b
 | .refuse _=>al.bot
noncomputable def zm(f N:Nat)(s:List (Nat×D))(k:List KI)(ds:List (Nat×Nat))(ro:Option (Nat×Nat))(cs:List Fm)(h:List (Nat×B))(nx:Nat):R:=match k with
 | []=>qm al X fin K f s ds ro cs h nx none
 | .code cd :: k=>codeF al X O fin K f N s k ds ro cs h nx cd
 | .blk _ :: k=>K f N s k ds ro cs h nx
 | .scope _ :: k=>K f N s k ds ro cs h nx
 | .loop b :: k=>K f N s (.code b :: .loop b :: k) ds ro cs h nx
 | .reg ops [] :: k=>K f N s k ds ro cs h nx
 | .reg ops (o :: l) :: k=>(match o.guard with
  | none=>Di al X O K f N s ds ro cs h nx o ops l k
  | some (j,want)=>match gd ops j with
   | some dj=>al.ak (Nat.blt dj N) (match lk s dj with
    | some (.fr (.vl (.bool b)))=>al.nS (pS b want)
     (Di al X O K f N ((dj,.fr (.vl (.bool want))) :: s) ds ro cs h nx o ops l k)
     (al.ak (dOk N o.dst) (nc ((dj,.fr (.vl (.bool (!want)))) :: s) o.dst Un fun s=>K f N s (.reg ops l :: k) ds ro cs h nx))
    | some (.fr (.vl (.tuple _)))=>al.ak (dOk N o.dst) (nc s o.dst Un fun s=>K f N s (.reg ops l :: k) ds ro cs h nx)
    | _=>al.bot)
   | none=>al.bot)
 | .rf _ _ :: _=>al.bot
 | .erf b v :: k=>(match lk h b with
  | some (.lp v' L)=>al.ak (Nat.beq v v' && !Nat.beq L.st 1) (match L.gI with
   | some j=>oU [(b,.lp v { L with st:=3 })] h fun h=>K f N s (.code j :: k) ds ro cs h nx
   | none=>oU [(b,.lp v { L with st:=3 })] h fun h=>K f N s k ds ro cs h nx)
  | _=>al.bot)
 | .br :: k=>(match ro with
  | some (b,v)=>(match lk h b with
   | some (.lp v' L)=>al.ak (Nat.beq v v'&&Nat.beq L.st 0) (oU [(b,.lp v { L with st:=1 })] h fun h=>K f N s k ds ro cs h nx)
   | _=>al.bot)
  | none=>al.bot)
end
section
variable {R:Type} {al:Al R} {X:Tx} {O:Orc R} {fin:D→List (Nat×B)→R} {K:Kc R}
theorem rn(s:List (Nat×D))(dst:Option Nat)(d:D)(k:List (Nat×D)→R):nc s dst d k=k (my s dst d):=by
 cases dst<;>simp only[nc,my,D.kg]
theorem yX(dr:Bool):x8 al X O dr=kh al X O dr:=by
 funext t η f l k
 simp only[x8,kh,F.cn,F.kg,D.cn];rfl
theorem nU(c:Fm)(d:D)(cs:List Fm)(h:List (Nat×B))(nx:Nat):od al K c d cs h nx=jA al K.un c d cs h nx:=by
 obtain⟨f,N,s,ki,ds,ro⟩:=c;simp only[od,jA,rn,mr];rfl
theorem Iz(f N:Nat)(s:List (Nat×D))(k:List KI)(ds:List (Nat×Nat))(ro:Option (Nat×Nat))(cs:List Fm)(h:List (Nat×B))(nx:Nat):Ji al X fin K f s ds cs h nx=D6 al X fin K.un ⟨⟨f,N,s,k,ds,ro⟩,cs,h,nx⟩:=by
 simp only[Ji,D6,nU]
 cases h1:X.fi f<;>cases h2:sw ds h<;>rfl
theorem l6(f N:Nat)(s:List (Nat×D))(k:List KI)(ds:List (Nat×Nat))(ro:Option (Nat×Nat))(cs:List Fm)(h:List (Nat×B))(nx:Nat)(j:Option Code):qm al X fin K f s ds ro cs h nx j=kZ al X fin K.un ⟨⟨f,N,s,k,ds,ro⟩,cs,h,nx⟩ j:=by
 simp only[qm,kZ,Iz f N s k ds ro cs h nx,nU];rfl
theorem vH(f:Nat)(l:List D)(cs:List Fm)(h:List (Nat×B))(nx:Nat):m4 al X O K f l cs h nx=eP al X O K.un f l cs h nx:=by
 cases cs<;>simp only[m4,eP,D.cn,jn,l8,bf,nU]<;>rfl
theorem F2(f N:Nat)(s:List (Nat×D))(k0:List KI)(ds:List (Nat×Nat))(ro:Option (Nat×Nat))(cs:List Fm)(h:List (Nat×B))(nx:Nat)(o:Oper)(ops:Array Oper)(l:List Oper)(k:List KI) :
  Di al X O K f N s ds ro cs h nx o ops l k=uM al X O K.un ⟨⟨f,N,s,k0,ds,ro⟩,cs,h,nx⟩ o ops l k:=by
 simp only[Di,uM,Cb,vH,yX,rn,l8,bf,jn,D.cn];rfl
theorem C6(N b0:Nat)(ops:Array Oper)(K:List (Nat×D)→List (Nat×B)→R):∀(l:List Oper) (acc:List Ac) (s:List (Nat×D)) (h:List (Nat×B)),zq al X O N b0 ops K acc l s h=oJ al X O N b0 ops K acc l s h
 | [],acc,s,h=>by simp only[zq,oJ,Ge]
 | o :: l,acc,s,h=>by
  simp only[zq,oJ,rn,l8,yX,C6 N b0 ops K l];rfl
theorem E4(f N:Nat)(s:List (Nat×D))(k:List KI)(ds:List (Nat×Nat))(ro:Option (Nat×Nat))(cs:List Fm)(h:List (Nat×B))(nx:Nat)(x:Operand)(ps:Array Nat)(a b:Code) :
  Bm al X O K f N s k ds ro cs h nx x ps a b=stepG al X O fin K.un ⟨⟨f,N,s,.code (.rangeFunc x ps a b) :: k,ds,ro⟩,cs,h,nx⟩:=by
 simp only[Bm,stepG,bf,vH]
 cases ro<;>rfl
theorem Hr(f N:Nat)(s:List (Nat×D))(k:List KI)(ds:List (Nat×Nat))(ro:Option (Nat×Nat))(cs:List Fm)(h:List (Nat×B))(nx:Nat) :
  zm al X O fin K f N s k ds ro cs h nx=stepG al X O fin K.un ⟨⟨f,N,s,k,ds,ro⟩,cs,h,nx⟩:=by
 match k with
 | []=>exact l6 f N s [] ds ro cs h nx none
 | .code cd :: k=>
  show codeF al X O fin K f N s k ds ro cs h nx cd=_
  cases cd with
  | exit id=>simp only[codeF,stepG,s9,l6 f N s (.code (.exit id) :: k) ds ro cs h nx];rfl
  | goto l=>simp only[codeF,stepG,s9,l6 f N s (.code (.goto l) :: k) ds ro cs h nx];rfl
  | ret=>exact l6 f N s (.code .ret :: k) ds ro cs h nx (some .ret)
  | region id ops b=>cases b<;>simp only[codeF,stepG,tJ,C6,bf]<;>rfl
  | rangeFunc x ps a b=>exact E4 ..
  | _=>rfl
 | .blk _ :: k=>rfl
 | .scope _ :: k=>rfl
 | .loop b :: k=>rfl
 | .reg ops [] :: k=>rfl
 | .reg ops (o :: l) :: k=>
  simp only[zm,stepG,rn,F2 f N _ (.reg ops (o :: l) :: k) ds ro cs h nx];rfl
 | .rf _ _ :: _=>rfl
 | .erf b v :: k=>
  simp only[zm,stepG,l8]
  cases lk h b with
  | none=>rfl
  | some x=>cases x with
   | lp v' L=>obtain⟨st,gI,lf,lN,ls,ps,asg,body,db,dv⟩:=L;cases gI<;>rfl
   | _=>rfl
 | .br :: k=>
  simp only[zm,stepG,l8]
  cases ro<;>rfl
end
end Go.Km
end
section
namespace Go.Km
open Go Go.RowKit Go.Vc
open Go.Sl hiding lk
structure Stp(p:Prop):Prop where
 h:p
structure Lp(p:Prop):Prop where
 h:p
structure Nd(p:Prop):Prop where
 h:p
structure SdA(p q:Prop):Prop where
 h:p
 k:q
structure BrA(c d p q:Prop):Prop where
 h1:c→p
 h2:d→q
structure Br(c p:Prop):Prop where
 h:c→p
structure OkA(ops:Array Oper)(acs:List Ac)(k:Prop):Prop where
 h:okE ops acs=true
 k:k
structure OrA(p a b:Prop):Prop where
 h:(p∧a)∨b
structure ExS(p:Prop)(k:p→Prop):Prop where
 h:p
 k:k h
structure ExK{α:Type}(o:Option α)(k:α→Prop):Prop where
 h:∃y,o=some y∧k y
def yV:Code→Bool
 | .skip=>true
 | .seq a _=>yV a
 | _=>false
def DR:List KI→Bool
 | .scope _ :: _=>true
 | _=>false
def Mo:List KI→Bool
 | .loop _ :: _=>true
 | .code c :: k=>(match c with
  | .seq a _=>yV a&&DR k
  | _=>false)
 | _=>false
class ou (ρ:Type) extends jl ρ where
 fin:ρ→D→List (Nat×B)→Prop
 ok:∀r d h,fin r d h→jl.post r d h
instance:ou (F×Bool) where
 fin r d h:=match D.toF (lk h) 6 d with
  | some (x,_)=>F.fo x fun x=>ao (x,cD (lk h) d) r
  | none=>False
 ok r d h hf:=by
  split at hf
  ·rename_i x is hx;rw[F.kg] at hf;exact⟨x,is,hx,hf.h⟩
  ·exact hf.elim
section
variable {ρ:Type} [ou ρ]
def g0(P:Program)(X:Tx)(f0:Nat)(r:ρ):Kc Prop:=fun f N s k ds ro cs h nx=>Sn P X f0 r ⟨⟨f,N,s,k,ds,ro⟩,cs,h,nx⟩
def goS(P:Program)(X:Tx)(f0:Nat)(r:ρ)(K:Kc Prop):Kc Prop:=zm alQ X ⟨fe P X.Γ,dR P X.Γ,u6 P X.Γ⟩ (ou.fin r) fun f N s k ds ro cs h nx=>match Mo k with
  | true=>Stp (Sn P X f0 r ⟨⟨f,N,s,k,ds,ro⟩,cs,h,nx⟩)
  | false=>K f N s k ds ro cs h nx
def g1(P:Program)(X:Tx)(f0:Nat)(r:ρ):Kc Prop:=goS P X f0 r (g0 P X f0 r)
def g2(P:Program)(X:Tx)(f0:Nat)(r:ρ):Kc Prop:=goS P X f0 r (g1 P X f0 r)
def g3(P:Program)(X:Tx)(f0:Nat)(r:ρ):Kc Prop:=goS P X f0 r (g2 P X f0 r)
def g4(P:Program)(X:Tx)(f0:Nat)(r:ρ):Kc Prop:=goS P X f0 r (g3 P X f0 r)
def g5(P:Program)(X:Tx)(f0:Nat)(r:ρ):Kc Prop:=goS P X f0 r (g4 P X f0 r)
def g6(P:Program)(X:Tx)(f0:Nat)(r:ρ):Kc Prop:=goS P X f0 r (g5 P X f0 r)
def g7(P:Program)(X:Tx)(f0:Nat)(r:ρ):Kc Prop:=goS P X f0 r (g6 P X f0 r)
def g8(P:Program)(X:Tx)(f0:Nat)(r:ρ):Kc Prop:=goS P X f0 r (g7 P X f0 r)
def g9(P:Program)(X:Tx)(f0:Nat)(r:ρ):Kc Prop:=goS P X f0 r (g8 P X f0 r)
def g10(P:Program)(X:Tx)(f0:Nat)(r:ρ):Kc Prop:=goS P X f0 r (g9 P X f0 r)
def g11(P:Program)(X:Tx)(f0:Nat)(r:ρ):Kc Prop:=goS P X f0 r (g10 P X f0 r)
def g12(P:Program)(X:Tx)(f0:Nat)(r:ρ):Kc Prop:=goS P X f0 r (g11 P X f0 r)
def g13(P:Program)(X:Tx)(f0:Nat)(r:ρ):Kc Prop:=goS P X f0 r (g12 P X f0 r)
def g14(P:Program)(X:Tx)(f0:Nat)(r:ρ):Kc Prop:=goS P X f0 r (g13 P X f0 r)
def g15(P:Program)(X:Tx)(f0:Nat)(r:ρ):Kc Prop:=goS P X f0 r (g14 P X f0 r)
def g16(P:Program)(X:Tx)(f0:Nat)(r:ρ):Kc Prop:=goS P X f0 r (g15 P X f0 r)
def g17(P:Program)(X:Tx)(f0:Nat)(r:ρ):Kc Prop:=goS P X f0 r (g16 P X f0 r)
def g18(P:Program)(X:Tx)(f0:Nat)(r:ρ):Kc Prop:=goS P X f0 r (g17 P X f0 r)
def g19(P:Program)(X:Tx)(f0:Nat)(r:ρ):Kc Prop:=goS P X f0 r (g18 P X f0 r)
def g20(P:Program)(X:Tx)(f0:Nat)(r:ρ):Kc Prop:=goS P X f0 r (g19 P X f0 r)
def g21(P:Program)(X:Tx)(f0:Nat)(r:ρ):Kc Prop:=goS P X f0 r (g20 P X f0 r)
def g22(P:Program)(X:Tx)(f0:Nat)(r:ρ):Kc Prop:=goS P X f0 r (g21 P X f0 r)
def g23(P:Program)(X:Tx)(f0:Nat)(r:ρ):Kc Prop:=goS P X f0 r (g22 P X f0 r)
def g24(P:Program)(X:Tx)(f0:Nat)(r:ρ):Kc Prop:=goS P X f0 r (g23 P X f0 r)
end
def zT(g:Cfg)(K:Kc Prop):Prop:=match g with
 | ⟨⟨f,N,s,ki,ds,ro⟩,cs,h,nx⟩=>bG f fun f=>bG N fun N=>oN s fun s=>kiF ki fun ki=>kx ds fun ds=>Dj ro fun ro=>JX cs fun cs=>tf h fun h=>bG nx fun nx=>K f N s ki ds ro cs h nx
theorem CP(g:Cfg)(K:Kc Prop):zT g K=K.un g:=by
 obtain⟨⟨f,N,s,k,ds,ro⟩,cs,h,nx⟩:=g;simp only[zT,jn,s9,gP,zr,Cu,mr,bf];rfl
section
variable {ρ:Type} [ou ρ] {P:Program} {X:Tx} (hX:j5 P X) {f0:Nat} {r:ρ}
def K9(P:Program)(X:Tx)(f0:Nat)(r:ρ)(K:Kc Prop):Prop:=∀{f N:Nat} {s:List (Nat×D)} {k:List KI} {ds:List (Nat×Nat)} {ro:Option (Nat×Nat)} {cs:List Fm} {h:List (Nat×B)} {nx:Nat},K f N s k ds ro cs h nx→Sn P X f0 r ⟨⟨f,N,s,k,ds,ro⟩,cs,h,nx⟩
include hX in
theorem b9{K:Kc Prop}(hK:K9 P X f0 r K):K9 P X f0 r (goS P X f0 r K):=by
 intro f N s k ds ro cs h nx hg;unfold goS at hg;rw[Hr] at hg;refine Ja (R:=Prop) (al:=alQ) (T:=fun p=>p) hX KR (fun g' hg'=>?_) ⟨fun f l k (h:fe P X.Γ f l k)=>h.h,fun t η f l k (h:dR P X.Γ t η f l k)=>h.h,fun t η b v l k (h:u6 P X.Γ t η b v l k)=>h.h⟩ (fun d h hf=>ou.ok r d h hf) hg;obtain⟨⟨f,N,s,k,ds,ro⟩,cs,h,nx⟩:=g';simp only[Kc.un] at hg'
 split at hg'
 ·exact hg'.h
 ·exact hK hg'
include hX in
theorem Lr:K9 P X f0 r (g24 P X f0 r):=(b9 hX (b9 hX (b9 hX (b9 hX (b9 hX (b9 hX (b9 hX (b9 hX (b9 hX (b9 hX (b9 hX (b9 hX (b9 hX (b9 hX (b9 hX (b9 hX (b9 hX (b9 hX (b9 hX (b9 hX (b9 hX (b9 hX (b9 hX (b9 hX (fun h=>h)))))))))))))))))))))))))
include hX in
theorem Sn.go{g:Cfg}(h:zT g (g24 P X f0 r)):Sn P X f0 r g:=by
 rw[CP] at h;exact Lr hX h
include hX in
theorem iL{f:FuncId}{fi:Fi}{l:List F}{r:F}{b:Bool}(hf:X.fi f=some fi)(hN:Nat.ble l.length fi.N=true)(h:zT (tu f fi (l.map F.toD)) (g24 P X f (r,b))):Pure P X.Γ f l r b:=
 JH (r:=(r,b)) hX hf hN (Sn.go hX h)
end
theorem kCt{ρ:Type}[ou ρ]{P:Program}{X:Tx}{f0:Nat}{r:ρ}(ks kc:List Nat){g:Cfg}(h:kx (reach kc g.h 10000 (roots kc ks g) []) fun m=>match cut m kc ks g with|some g'=>zT g' fun f N s k ds ro cs h nx=>Lp (Sn P X f0 r ⟨⟨f,N,s,k,ds,ro⟩,cs,h,nx⟩)|none=>False):Stp (Sn P X f0 r g):=by
 rw[gP] at h
 split at h
 ·rename_i g' hg;rw[CP] at h;exact⟨Sn.short kc ks hg h.h⟩
 ·exact h.elim
theorem Stp.on{p:Prop}(h:p):Stp p:=⟨h⟩
def iW{α:Type}(u:List (Nat×α)):List (Nat×α)→List (Nat×α)
 | []=>[]
 | (k,x) :: l=>(k,(match lk u k with|some y=>y|none=>x)) :: iW u l
def J1(s:List (Nat×D))(h:List (Nat×B))(g:Cfg):Cfg:={ g with top:={ g.top with s:=iW s g.top.s },h:=iW h g.h }
abbrev InD(n:Int):D:=.fr (.vl (.int .i64 n))
abbrev BoD(b:Bool):D:=.fr (.vl (.bool b))
def Mj(g:Cfg)(s:List (Nat×D))(h:List (Nat×B)):Cfg:=⟨⟨g.top.f,g.top.N,s,g.top.k,g.top.ds,g.top.ro⟩,g.cs,h,g.nx⟩
theorem Lp.ind {ρ:Type} [ou ρ] {P:Program} {X:Tx} {f0:Nat} {r:ρ} {g:Cfg} {ι:Type} (m:ι→Nat) (I:ι→Prop) (σ:ι→List (Nat×D)) (τ:ι→List (Nat×B)) (R:ι→ρ) (i0:ι) (h0:I i0) (hr:r=R i0) (hs:g.top.s=iW (σ i0) g.top.s) (hh:g.h=iW (τ i0) g.h)
  (h:let G:=g;∀i,(∀j r' s' h',m j<m i→I j→r'=R j→s'=iW (σ j) G.top.s→h'=iW (τ j) G.h→Lp (Sn P X f0 r' (Mj G s' h')))→I i→Sn P X f0 (R i) (J1 (σ i) (τ i) G)):Lp (Sn P X f0 r g):=by
 have key:∀n i,m i≤n→I i→Sn P X f0 (R i) (J1 (σ i) (τ i) g):=by
  intro n
  induction n with
  | zero=>
   intro i hi hI;exact h i (fun j r' s' h' hj _ _ _ _=>by omega) hI
  | succ n ih=>
   intro i hi hI;exact h i (fun j r' s' h' hj hJ e1 e2 e3=>by rw[e1,e2,e3];exact⟨ih j (by omega) hJ⟩) hI
 have hg:g=J1 (σ i0) (τ i0) g:=by
  unfold J1;rw[←hs,←hh]
 rw[hr,hg];exact⟨key _ i0 (Nat.le_refl _) h0⟩
class Arm(p:Prop)(q:outParam Prop):Prop where
 h:q→p
class KC(P:Program)(Γ:Nat→Option (List F))(f:Nat)(l:List F)(r:outParam F)(b:outParam Bool)(pre:outParam Prop):Prop where
 h:pre→Pure P Γ f l r b
theorem Nd.i{p:Prop}(h:p:=by first|with_reducible trivial|exact Or.inr rfl|with_reducible assumption|omega|(simp only[List.length_map,List.length_append,List.length_set,List.length_cons,List.length_nil,List.length_replicate,List.length_take,List.length_drop,jG,Int.toNat_natCast,maxLen,true_and,and_true];omega)):Nd p:=⟨h⟩
theorem OkA.i{ops:Array Oper}{acs:List Ac}{k:Prop}(h:okD ops acs=true)(hk:k):OkA ops acs k:=⟨by rw[Ge];exact h,hk⟩
theorem OrA.l{p a b:Prop}(h:Nd p)(ha:a):OrA p a b:=⟨.inl ⟨h.h,ha⟩⟩
theorem OrA.r{p a b:Prop}(hb:b):OrA p a b:=⟨.inr hb⟩
theorem SdA.m{p q:Prop}(h:Nd p)(hq:q):SdA p q:=⟨h.h,hq⟩
theorem BrA.i{c d p q:Prop}(h1:Br c p)(h2:Br d q):BrA c d p q:=⟨h1.h,h2.h⟩
structure No(c:Prop):Prop where
 h:¬c
theorem nt{c:Bool}(h:c=false):¬c=true:=by rw[h];decide
theorem nf{c:Bool}(h:c=true):¬c=false:=by rw[h];decide
theorem No.i{c:Prop}(h:¬c:=by first|with_reducible assumption|(refine nt ?_;with_reducible assumption)|(refine nf ?_;with_reducible assumption)|omega|(simp only[List.length_map,List.length_append,List.length_set,List.length_cons,List.length_nil,List.length_replicate,List.length_take,List.length_drop,jG,Int.toNat_natCast];omega)):No c:=⟨h⟩
theorem Br.no{c p:Prop}(h:No c):Br c p:=⟨fun hc=>(h.h hc).elim⟩
theorem Br.i{c p:Prop}(h:c→p):Br c p:=⟨h⟩
theorem ExS.m{p:Prop}{k:p→Prop}(h:Nd p)(hk:∀h,k h):ExS p k:=⟨h.h,hk h.h⟩
structure Kn(p:Prop):Prop where
 h:p
theorem Kn.i{p:Prop}(h:p:=by with_reducible assumption):Kn p:=⟨h⟩
theorem ExK.m{α:Type}{o:Option α}{k:α→Prop}{y:α}(h:Kn (o=some y))(hk:k y):ExK o k:=⟨y,h.h,hk⟩
section
variable {c a b:Bool} {k A B:Prop} {m n:Nat} {x y:Int} {s t:ByteArray}
instance(priority:=low):Arm (gz c k) (SdA (c=true) k):=⟨fun ⟨h,hk⟩=>by have:c=true:=h;subst this;exact hk⟩
instance{ops:Array Oper}{acs:List Ac}:Arm (gz (okE ops acs) k) (OkA ops acs k):=⟨fun ⟨h,hk⟩=>by rw[h];exact hk⟩
instance:Arm (gz (a&&b) k) (gz a (gz b k)):=⟨fun h=>by cases a<;>cases b<;>exact h⟩
instance:Arm (gz (Nat.ble m n) k) (SdA (m≤n) k):=⟨fun ⟨h,hk⟩=>by rw[Nat.ble_eq_true_of_le h];exact hk⟩
instance:Arm (gz (Nat.blt m n) k) (SdA (m<n) k):=⟨fun ⟨h,hk⟩=>by unfold Nat.blt;rw[Nat.ble_eq_true_of_le h];exact hk⟩
instance:Arm (gz (Nat.beq m n) k) (SdA (m=n) k):=⟨fun ⟨h,hk⟩=>by have:m=n:=h;subst this;rw[Nat.beq_refl];exact hk⟩
instance{p q:Nat}:Arm (gz (Nat.beq m n||Nat.beq p q) k) (SdA (m=n∨p=q) k):=⟨fun ⟨h,hk⟩=>by
 rcases h with h|h
 ·have:m=n:=h;subst this;rw[Nat.beq_refl];exact hk
 ·have:p=q:=h;subst this;rw[Nat.beq_refl,Bool.or_true];exact hk⟩
instance:Arm (gz (Jd x) k) (SdA (-9223372036854775808≤x∧x≤9223372036854775807) k):=⟨fun ⟨h,hk⟩=>by rw[(yH x).2 h];exact hk⟩
instance:Arm (gz (leI x y) k) (SdA (x≤y) k):=⟨fun ⟨h,hk⟩=>by rw[dt,decide_eq_true (show x≤y from h)];exact hk⟩
instance(priority:=low):Arm (m9 c A B) (BrA (c=true) (c=false) A B):=⟨fun ⟨h1,h2⟩=>by cases c;exact h2 rfl;exact h1 rfl⟩
instance{p:Prop}[Decidable p]:Arm (m9 (decide p) A B) (BrA p (¬p) A B):=⟨fun ⟨h1,h2⟩=>by
 by_cases e:p
 ·rw[decide_eq_true e];exact h1 e
 ·rw[decide_eq_false e];exact h2 e⟩
instance:Arm (m9 (!c) A B) (m9 c B A):=⟨fun h=>by cases c<;>exact h⟩
instance:Arm (m9 (pS c true) A B) (m9 c A B):=⟨fun h=>by cases c<;>exact h⟩
instance:Arm (m9 (pS c false) A B) (m9 c B A):=⟨fun h=>by cases c<;>exact h⟩
instance:Arm (m9 (ltI x y) A B) (BrA (x<y) (y≤x) A B):=⟨fun ⟨h1,h2⟩=>by
 rw[kM]
 by_cases e:x<y
 ·rw[decide_eq_true e];exact h1 e
 ·rw[decide_eq_false e];exact h2 (by omega)⟩
instance:Arm (m9 (leI x y) A B) (BrA (x≤y) (y<x) A B):=⟨fun ⟨h1,h2⟩=>by
 rw[dt]
 by_cases e:x≤y
 ·rw[decide_eq_true e];exact h1 e
 ·rw[decide_eq_false e];exact h2 (by omega)⟩
instance:Arm (m9 (eqI x y) A B) (BrA (x=y) (x≠y) A B):=⟨fun ⟨h1,h2⟩=>by
 rw[dd]
 by_cases e:x=y
 ·rw[decide_eq_true e];exact h1 e
 ·rw[decide_eq_false e];exact h2 e⟩
instance:Arm (m9 (eqS s t) A B) (BrA (s=t) (s≠t) A B):=⟨fun ⟨h1,h2⟩=>by
 rw[r8]
 by_cases e:s=t
 ·rw[decide_eq_true e];exact h1 e
 ·rw[decide_eq_false e];exact h2 e⟩
theorem Kw{s:ByteArray}(h:s≠⟨#[]⟩):0<s.size:=by
 rcases Nat.eq_zero_or_pos s.size with h0|h0
 ·exact absurd (ByteArray.ext (Array.eq_empty_of_size_eq_zero h0)) h
 ·exact h0
instance(priority:=high):Arm (m9 (eqS s ⟨#[]⟩) A B) (BrA (s=⟨#[]⟩) (s≠⟨#[]⟩∧0<s.size) A B):=⟨fun ⟨h1,h2⟩=>by
 rw[r8]
 by_cases e:s=⟨#[]⟩
 ·rw[decide_eq_true e];exact h1 e
 ·rw[decide_eq_false e];exact h2 ⟨e,Kw e⟩⟩
instance{α:Type}{f:α→List F}{L:List α}{i:Nat}{k:List F→Prop}:Arm (zp (L.map f)[i]? k) (ExS (i<L.length) fun h=>k (f (L[i]'h))):=⟨fun ⟨h,hk⟩=>by
 have h':i<L.length:=h;rw[List.getElem?_map,List.getElem?_eq_getElem h'];exact hk⟩
instance{s:ByteArray}{i:Nat}{k:UInt8→Prop}:Arm (zp s.data.toList[i]? k) (ExS (i<s.size) fun h=>k (s.data.toList[i]'h)):=⟨fun ⟨h,hk⟩=>by
 have h':i<s.data.toList.length:=h;rw[List.getElem?_eq_getElem h'];exact hk⟩
instance(priority:=low){α:Type}{xs:List α}{i:Nat}{k:α→Prop}:Arm (zp xs[i]? k) (ExK xs[i]? k):=⟨fun ⟨y,h,hk⟩=>by
 have h':xs[i]?=some y:=h;rw[h'];exact hk⟩
instance{α:Type}{xs:List α}{i j:Nat}{y:α}{k:α→Prop}:Arm (zp (xs.set i y)[j]? k) (OrA (i≠j) (zp xs[j]? k) (OrA (i=j∧j<xs.length) (k y) (ExK (xs.set i y)[j]? k))):=⟨fun ⟨h⟩=>by
 rcases h with ⟨h,hk⟩|⟨⟨⟨h,h2⟩,hk⟩|⟨z,h,hk⟩⟩
 ·have h':i≠j:=h;rw[List.getElem?_set_ne h'];exact hk
 ·subst h;rw[List.getElem?_set_self h2];exact hk
 ·rw[h];exact hk⟩
instance{k:Nat→Prop}:Arm (MM x k) (SdA (0≤x) (k x.toNat)):=⟨fun ⟨h,hk⟩=>by
 have h':0≤x:=h
 cases x with
 | ofNat i=>exact hk
 | negSucc i=>omega⟩
instance(priority:=low){k:Int→Prop}:Arm (FJ x k) (k x):=⟨fun h=>⟨x,rfl,h⟩⟩
instance{k:Int→Prop}:Arm (FJ (IntKind.i64.wrap x) k) (OrA (-9223372036854775808≤x∧x≤9223372036854775807) (k x) (k (IntKind.i64.wrap x))):=⟨fun ⟨h⟩=>by
 rcases h with ⟨h,hk⟩|hk
 ·exact⟨x,wrap_i64 (by unfold I64;exact h),hk⟩
 ·exact⟨_,rfl,hk⟩⟩
instance{k:Int→Prop}:Arm (FJ (IntKind.u8.wrap x) k) (OrA (0≤x∧x≤255) (k x) (k (IntKind.u8.wrap x))):=⟨fun ⟨h⟩=>by
 rcases h with ⟨h,hk⟩|hk
 ·exact⟨x,wrap_u8 h,hk⟩
 ·exact⟨_,rfl,hk⟩⟩
instance{k:Int→Prop}:Arm (FJ (IntKind.u64.wrap x) k) (OrA (0≤x∧x≤18446744073709551615) (k x) (k (IntKind.u64.wrap x))):=⟨fun ⟨h⟩=>by
 rcases h with ⟨h,hk⟩|hk
 ·exact⟨x,wrap_u64 h,hk⟩
 ·exact⟨_,rfl,hk⟩⟩
instance{l m:List Int}:Arm (m9 (wC l m) A B) (BrA (l=m) (l≠m) A B):=⟨fun ⟨h1,h2⟩=>by
 rw[oH]
 by_cases e:l=m
 ·rw[decide_eq_true e];exact h1 e
 ·rw[decide_eq_false e];exact h2 e⟩
end
structure FoA{α:Type}(l:α)(k k':α→Prop):Prop where
 h:k' l∨∃l',l=l'∧k l'
theorem FoA.m{α:Type}{l l':α}{k k':α→Prop}(h:Kn (l=l'))(hk:k l'):FoA l k k':=⟨.inr ⟨l',h.h,hk⟩⟩
theorem FoA.o{α:Type}{l:α}{k k':α→Prop}(hk:k' l):FoA l k k':=⟨.inl hk⟩
instance(priority:=low){l:List D}{k:List D→Prop}:Arm (D.fos l k) (FoA l (fun l=>D.fos l k) k):=⟨fun ⟨h⟩=>by
 rcases h with h|⟨l',rfl,h⟩
 ·rw[D.cn];exact h
 ·exact h⟩
class kP{α:Type}(f:α→List F)(n:outParam Nat):Prop where
 h:∀x,(f x).length=n
theorem sS{α:Type}{f:α→List F}{n:Nat}[h:kP f n](L:List α):jh n (L.map f)=true:=by
 simp only[jh,List.all_map,List.all_eq_true];intro x _;show Nat.beq (f x).length n=true
 rw[h.h];exact Nat.beq_refl n
instance{α:Type}{f:α→List F}{n:Nat}{L:List α}{k:Prop}[kP f n]:Arm (gz (jh n (L.map f)) k) k:=⟨fun h=>by rw[sS];exact h⟩
instance{α:Type}{f:α→List F}{n:Nat}{L:List α}{k:Prop}[kP f n]:Arm (gz (om n (L.map f)) k) k:=⟨fun h=>by rw[show om n (L.map f)=jh n (L.map f) from rfl,sS];exact h⟩
instance{P:Program}{Γ:Nat→Option (List F)}{f:Nat}{l:List F}{r:F}{b:Bool}{pre:Prop}{k:F×Bool→Prop}[hc:KC P Γ f l r b pre]:Arm (fe P Γ f l k) (SdA pre (k (r,b))):=⟨fun ⟨h,hk⟩=>⟨(r,b),hc.h h,hk⟩⟩
theorem ao.r{x:F}{b:Bool}:ao (x,b) (x,false):=⟨rfl,fun h=>(by cases h)⟩
theorem ao.t{x:F}{b:Bool}(h:b=true):ao (x,b) (x,true):=⟨rfl,fun _=>h⟩
theorem ao.i{x y:F}{b:Bool}(h:x=y):ao (x,b) (y,false):=⟨h,fun h=>(by cases h)⟩
theorem ao.j{x y:F}{b:Bool}(h:x=y)(hb:b=true):ao (x,b) (y,true):=⟨h,fun _=>hb⟩
theorem ao.b{a b c:Bool}(h:a=b)(hc:c=true):ao (.vl (.bool a),c) (.vl (.bool b),true):=⟨by rw[h],fun _=>hc⟩
theorem ao.n{a b:Int}{c:Bool}(h:a=b)(hc:c=true):ao (.vl (.int .i64 a),c) (.vl (.int .i64 b),true):=⟨by rw[h],fun _=>hc⟩
theorem ao.s{a b:ByteArray}{c:Bool}(h:a=b)(hc:c=true):ao (.vl (.string a),c) (.vl (.string b),true):=⟨by rw[h],fun _=>hc⟩
theorem Hp.ren{c:Cf}{O:Nat→Nat→Prop}{η:Env}{w:World}{m:Rn}{kc:List Nat}{h h':List (Nat×B)}(hp:Hp c O η w)(ho:b8 m=true)(hη:∀b x,lk h b=some x→η b=some x)(hr:dq m kc h m 0=some h'):Hp (rC m c) (rO m O) (lk h') w:=by
 refine⟨fun i x' hx'=>?_,fun i v y hy=>?_,fun i j g hi hj=>?_,fun g hg=>?_,fun i g hi=>?_⟩
 ·obtain⟨_,b,x,k1,k2,k3⟩:=ji hr hx';rw[Nat.sub_zero] at k1;have hS:rO m O i=O b:=funext fun g=>propext ⟨fun ⟨b',v',e,hO⟩=>by rw[k1] at e;cases e;exact hO,fun hO=>⟨b,_,k1,hO⟩⟩
  rw[hS];exact Dw k1 k3 (hp.pc b x (hη b x k2))
 ·simp only[rC,rι] at hy
  split at hy
  ·rename_i b v0 hm;obtain⟨x',hx'⟩:=o9 hr hm;rw[Nat.zero_add] at hx';exact⟨x',hx',Nat.zero_le _⟩
  ·cases hy
 ·obtain⟨b,v,e1,o1⟩:=hi;obtain⟨b',v',e2,o2⟩:=hj;have:=hp.apart b b' g o1 o2;subst this;exact nV ho e1 e2
 ·obtain⟨k1,k2,k3⟩:=hp.fz g hg;exact⟨k1,k2,fun i ⟨b,v,_,o⟩=>k3 b o⟩
 ·obtain⟨b,v,_,o⟩:=hi;exact hp.lt b g o
section
variable {m:Rn} {c c4:Cf} (hι:∀i b v,m[i]?=some (b,v)→c4.ι b v=c.ι i 0) (hZ:c4.Z=c.Z) (hR:c4.R=c.R)
include hι hZ hR
mutual
theorem vF:∀{d d':D} {u:Value},bu m d=some d'→D.rep c d' u→D.rep c4 d u
 | .fr x,d',u,h,hd=>by simp only[bu] at h;cases h;unfold D.rep at hd ⊢;rw[hZ,hR];exact hd
 | .fx x,d',u,h,hd=>by simp only[bu] at h;cases h;unfold D.rep at hd ⊢;rw[hZ,hR];exact hd
 | .ag l,d',u,h,hd=>by
  simp only[bu] at h
  split at h<;>cases h
  rename_i l' hl;unfold D.rep at hd ⊢;obtain⟨vs,h1,h2⟩:=hd;exact⟨vs,h1,dK hl h2⟩
 | .tp l,d',u,h,hd=>by
  simp only[bu] at h
  split at h<;>cases h
  rename_i l' hl;unfold D.rep at hd ⊢;obtain⟨vs,h1,h2⟩:=hd;exact⟨vs,h1,dK hl h2⟩
 | .cl f l,d',u,h,hd=>by
  simp only[bu] at h
  split at h<;>cases h
  rename_i l' hl;unfold D.rep at hd ⊢;obtain⟨vs,h1,h2⟩:=hd;exact⟨vs,h1,dK hl h2⟩
 | .mcl f k l,d',u,h,hd=>by
  simp only[bu] at h
  split at h<;>cases h
  rename_i k' l' hk hl;unfold D.rep at hd ⊢;obtain⟨us,vs,h1,h2,h3⟩:=hd;exact⟨us,vs,h1,dK hk h2,dK hl h3⟩
 | .ptr b v o,d',u,h,hd=>by
  simp only[bu] at h
  split at h<;>cases h
  rename_i i hi;have:=(dE hi).2;rw[Nat.sub_zero] at this;unfold D.rep at hd ⊢
  rwa [hι _ _ _ this]
 | .rp b v sz j o,d',u,h,hd=>by
  simp only[bu] at h
  split at h<;>cases h
  rename_i i hi;have:=(dE hi).2;rw[Nat.sub_zero] at this;unfold D.rep at hd ⊢
  rwa [hι _ _ _ this]
 | .own b v,d',u,h,hd=>by
  simp only[bu] at h
  split at h<;>cases h
  rename_i i hi;have:=(dE hi).2;rw[Nat.sub_zero] at this;unfold D.rep at hd ⊢
  rwa [hι _ _ _ this]
 | .mv b v,d',u,h,hd=>by
  simp only[bu] at h
  split at h<;>cases h
  rename_i i hi;have:=(dE hi).2;rw[Nat.sub_zero] at this;unfold D.rep at hd ⊢
  rwa [hι _ _ _ this]
 | .yl b v,d',u,h,hd=>by
  simp only[bu] at h
  split at h<;>cases h
  rename_i i hi;have:=(dE hi).2;rw[Nat.sub_zero] at this;unfold D.rep at hd ⊢
  rwa [hι _ _ _ this]
 | .sub b v sz lo hi ex,d',u,h,hd=>by
  simp only[bu] at h
  split at h<;>cases h
  rename_i i hi;have:=(dE hi).2;rw[Nat.sub_zero] at this;unfold D.rep at hd ⊢
  rwa [hι _ _ _ this]
theorem dK:∀{d d':List D} {u:List Value},aN m d=some d'→D.ah c d' u→D.ah c4 d u
 | [],d',u,h,hd=>by simp only[aN] at h;cases h;unfold D.ah at hd ⊢;exact hd
 | x :: l,d',u,h,hd=>by
  simp only[aN] at h
  split at h<;>cases h
  rename_i x' l' hx hl;unfold D.ah at hd ⊢;obtain⟨a,b,h1,h2,h3⟩:=hd;exact⟨a,b,h1,vF hx h2,dK hl h3⟩
end
theorem DH{b i:Nat}{x x':B}{S:Nat→Prop}{w:World}(hi:m[i]?=some (b,x.ver))(h:eI m [] x=some x')(hl:(match x with | .lp _ l=>l.s.isEmpty|_=>true)=true)(hx:x'.on c i S w):x.on c4 b S w:=by
 have hι':=hι _ _ _ hi
 cases x with
 | va v t cs=>
  simp only[eI] at h
  split at h<;>cases h
  rename_i cs' hcs;obtain⟨g,vs,h1,h2,h3,h4⟩:=hx;exact⟨g,vs,hι'.trans h1,dK hι hZ hR hcs h2,h3,h4⟩
 | ro v e sz rows=>
  simp only[eI] at h
  cases h;obtain⟨A,k,vr,h1,h2,h3,h4⟩:=hx;exact⟨A,k,vr,hι'.trans h1,by rw[hZ,hR];exact h2,h3,h4⟩
 | gone v=>cases h
 | mp v rows=>
  simp only[eI] at h
  cases h;obtain⟨g,es,k,h1,h2,h3,h4⟩:=hx;exact⟨g,es,k,hι'.trans h1,h2,h3,by rw[hZ,hR];exact h4⟩
 | lp v l=>
  simp only[eI] at h
  split at h<;>cases h
  rename_i j hj;obtain⟨g,L,gd,h1,h2,h3,h4,h5,h6,h7,h8,h9,h10,h11,h12⟩:=hx;have hs:l.s=[]:=by simpa using hl
  have hj':=(dE hj).2;rw[Nat.sub_zero] at hj';exact⟨g,L,gd,hι'.trans h1,h2,h3,h4,h5,h6,h7,h8,h9,⟨h10.size,fun k d hk=>by rw[hs] at hk;cases hk⟩,(hι _ _ _ hj').trans h11,h12⟩
 | df v=>
  simp only[eI] at h
  cases h;obtain⟨gs,h1,h2,h3⟩:=hx;exact⟨gs,h1.of hι',h2,h3⟩
 | gh v vs ds=>
  simp only[eI] at h
  split at h<;>cases h
  rename_i ds' hds;exact dK hι hZ hR hds hx
 | ab v a=>
  simp only[eI] at h
  cases h;obtain⟨g,h1,h2⟩:=hx;exact⟨g,hι'.trans h1,by rw[hZ,hR];exact h2⟩
end
structure sf where
 d:D
 h:List (Nat×B)
mutual
theorem Fa(m:Rn):∀x:F,bu m x.Ak=some x.Ak
 | .ag cs=>by simp only[F.Ak,bu,lH]
 | .vl _=>rfl
 | .sl _=>rfl
 | .tp _=>rfl
 | .cl _ _=>rfl
 | .pt _ _ _ _=>rfl
 | .mp _=>rfl
theorem lH(m:Rn):∀l:List F,aN m (l.map D.fr)=some (l.map D.fr)
 | []=>rfl
 | x :: l=>by simp only[List.map_cons,aN,bu,lH m l]
end
theorem sZ(m:Rn):∀l:List F,aN m (l.map F.Ak)=some (l.map F.Ak)
 | []=>rfl
 | x :: l=>by simp only[List.map_cons,aN,Fa,sZ m l]
theorem jf(m:Rn):∀x:F,bu m x.toD=some x.toD
 | .ag cs=>by simp only[F.toD,bu,lH]
 | .tp cs=>by simp only[F.toD,bu,sZ]
 | .vl _=>rfl
 | .sl _=>rfl
 | .cl _ _=>rfl
 | .pt _ _ _ _=>rfl
 | .mp _=>rfl
theorem eH(m:Rn):∀l:List F,aN m (l.map F.toD)=some (l.map F.toD)
 | []=>rfl
 | x :: l=>by simp only[List.map_cons,aN,jf,eH m l]
instance:jl sf:=⟨fun r d h=>∃x is m,D.toF (lk h) 6 d=some (x,is)∧b8 m=true∧x.toD=r.d∧dq m [] (aS (lk h) is++h) m 0=some r.h⟩
structure cQ(d:D)(h:List (Nat×B))(r:sf):Prop where
 h:d=r.d∧h=r.h
def ghD:List (Nat×B)→List (Nat×Nat)
 | []=>[]
 | (_,.gh _ _ ds) :: l=>wA ds++ghD l
 | _ :: l=>ghD l
instance:ou sf where
 fin r d h:=match D.toF (lk h) 6 d with
  | some (x,is)=>F.fo x fun x=>tf (aS (lk h) is++h) fun h=>kx (reach [] h 10000 (ghD h++na h) []) fun m=>gz (b8 m) (match dq m [] h m 0 with
   | some h'=>D.fo x.toD fun d'=>tf h' fun h'=>cQ d' h' r
   | none=>False)
  | none=>False
 ok r d h hf:=by
  split at hf
  ·rename_i x is hx;rw[F.kg,mr,gP] at hf
   cases ho:b8 (reach [] (aS (lk h) is++h) 10000 (ghD (aS (lk h) is++h)++na (aS (lk h) is++h)) []) with
   | false=>rw[ho] at hf;exact hf.elim
   | true=>
    rw[ho] at hf
    change (match dq _ [] _ _ 0 with|some h'=>D.fo x.toD fun d'=>tf h' fun h'=>cQ d' h' r|none=>False) at hf
    split at hf
    ·rename_i h' h2;rw[D.kg,mr] at hf;exact⟨x,is,_,hx,ho,hf.h.1,by rw[h2,hf.h.2]⟩
    ·exact hf.elim
  ·exact hf.elim
theorem I6(e h:List (Nat×B)):Res.lk2 e (lk h)=lk (e++h):=by
 induction e with
 | nil=>rfl
 | cons a e ih=>
  obtain⟨j,y⟩:=a;show up (Res.lk2 e (lk h)) j y=_
  rw[ih,List.cons_append,bW]
theorem rR{α:Type}(h:List (Nat×α))(k:Nat)(x:α)(i:Nat):lk (h++[(k,x)]) i=match lk h i with|some y=>some y|none=>bif Nat.beq k i then some x else none:=by
 induction h with
 | nil=>rfl
 | cons a h ih=>
  obtain⟨j,y⟩:=a;simp only[List.cons_append,lk,ih]
  cases Nat.beq j i<;>rfl
theorem pM:∀{m:Rn} {b v i:Nat} (k:Nat),b8 m=true→m[i]?=some (b,v)→cj m b v k=some (k+i)
 | [],b,v,i,k,_,h=>by simp at h
 | (b0,v0) :: m,b,v,i,k,ho,h=>by
  simp only[b8,Bool.and_eq_true,Bool.not_eq_true',List.any_eq_false] at ho;simp only[cj]
  cases i with
  | zero=>
   simp at h;obtain⟨rfl,rfl⟩:=h;simp
  | succ i=>
   simp at h;have hne:Nat.beq b b0=false:=by
    rw[←Bool.not_eq_true];intro e;have:=Nat.eq_of_beq_eq_true e;subst this;exact ho.1 _ (List.mem_of_getElem? h) (by simp)
   rw[hne];simp only[cond_false];rw[pM (k+1) ho.2 h]
   congr 1
   omega
theorem oy:∀{e:List (Nat×B)} {η:Env} {b:Nat} {x:B},lk e b=some x→Res.lk2 e η b=some x
 | [],η,b,x,h=>by cases h
 | (j,y) :: e,η,b,x,h=>by
  simp only[lk] at h;simp only[Res.lk2,up]
  cases hj:Nat.beq j b with
  | true=>rw[hj] at h;exact h
  | false=>rw[hj] at h;exact oy h
theorem tt:∀{e:List (Nat×B)} {η:Env} {b:Nat},lk e b=none→Res.lk2 e η b=η b
 | [],η,b,h=>rfl
 | (j,y) :: e,η,b,h=>by
  simp only[lk] at h;simp only[Res.lk2,up]
  cases hj:Nat.beq j b with
  | true=>rw[hj] at h;cases h
  | false=>rw[hj] at h;exact tt h
structure zb(η:Env)(l:List D)(bs:List Nat)(μ:Rn)(ds':List D)(rd:List Nat)(e:List (Nat×B)):Prop where
 once:b8 μ=true
 m0e:∀b∈bs,∃x,lk e b=some x
 erd:∀b x,lk e b=some x→b∈rd
 kind:∀b x,lk e b=some x→(match x with | .lp _ l=>l.s.isEmpty | .gh _ _ _=>false|_=>true)=true∧((∃i:Nat,μ[i]?=some (b,x.ver))∨∃v,x=.gone v)
 ver:∀b x y,lk e b=some x→η b=some y→y.ver≤x.ver
 b4:∀(i b v:Nat),μ[i]?=some (b,v)→v=nv η b∨(∃j o:Nat,l[j]?=some (.ptr b v o)∧ds'[j]?=some (.ptr i 0 o))∨(∃j:Nat,l[j]?=some (.own b v)∧ds'[j]?=some (.own i 0))∨∃j:Nat,l[j]?=some (.yl b v)∧ds'[j]?=some (.yl i 0)
theorem EV{h h':List (Nat×B)}{m:Rn}{kc:List Nat}(hm:dq m kc h m 0=some h')(i:Nat)(x:B)(hx:lk h' i=some x):i<m.length:=by
 obtain⟨_,b,y,k1,_⟩:=ji hm hx;rw[Nat.sub_zero] at k1;exact(List.getElem?_eq_some_iff.1 k1).1
theorem uT {η η':Env} {l:List D} {bs:List Nat} {μ:Rn} {ds':List D} {rd:List Nat} {e h'':List (Nat×B)} {d d':D} (hs:zb η l bs μ ds' rd e) (hd:bu μ d=some d') (he:dq μ [] e μ 0=some h'')
  (hη':∀b∈rd,η' b=η b) {W:Bs} {c c3:Cf} {O O3:Nat→Nat→Prop} {w w':World} {us:List Value} {v:Value} (hp:Hp c O η' w) (hold:Old W c O w) (hvx:D.ah c l us)
  (p3:Hp c3 O3 (lk (h''++[(μ.length,.gh 0 us ds')])) w') (q9:Old ⟨w,fun g=>∃b∈bs,O b g,c⟩ c3 O3 w') (hv3:D.rep c3 d' v):Res W η' c (Is3 d rd e) v w':=by
 have hgn:lk h'' μ.length=none:=by
  cases h:lk h'' μ.length with
  | none=>rfl
  | some x=>exact absurd (EV he _ _ h) (Nat.lt_irrefl _)
 have hg3:D.ah c3 ds' us:=p3.pc μ.length (.gh 0 us ds') (by rw[rR,hgn];simp);have hlive:∀i b v,μ[i]?=some (b,v)→∃x x',lk e b=some x∧x.ver=v∧eI μ [] x=some x'∧lk h'' i=some x':=by
  intro i b v hi;obtain⟨x',hx'⟩:=o9 he hi;rw[Nat.zero_add] at hx';obtain⟨_,b',x,k1,k2,k3⟩:=ji he hx';rw[Nat.sub_zero,hi] at k1
  cases k1;exact⟨x,x',k2,rfl,k3,hx'⟩
 let c4:Cf:=⟨fun b v=>match cj μ b v 0 with|some i=>c3.ι i 0|none=>c.ι b v,c3.R,c3.Z⟩
 have hι:∀i b v,μ[i]?=some (b,v)→c4.ι b v=c3.ι i 0:=by
  intro i b v hi;show(match cj μ b v 0 with|some i=>c3.ι i 0|none=>c.ι b v)=_
  rw[pM 0 hs.once hi,Nat.zero_add]
 have hle:c.le c4:=by
  refine⟨fun b v x hx=>?_,q9.le⟩;show(match cj μ b v 0 with|some i=>c3.ι i 0|none=>c.ι b v)=some x
  cases hpos:cj μ b v 0 with
  | none=>exact hx
  | some i=>
   have hi:=(dE hpos).2;rw[Nat.sub_zero] at hi;obtain⟨y,y',k1,k2,k3,k4⟩:=hlive i b v hi;rcases hs.b4 i b v hi with rfl|⟨j,o,g1,g2⟩|⟨j,g1,g2⟩|⟨j,g1,g2⟩
   ·exfalso
    have:=hp.fresh b;rw[cH (hη' b (hs.erd b y k1)),hx] at this
    cases this
   ·obtain⟨u,hu1,hu2⟩:=D.bT hvx g1;obtain⟨u',hu3,hu4⟩:=D.bT hg3 g2;rw[hu1] at hu3
    cases hu3;unfold D.rep at hu2 hu4;obtain⟨g,a1,a2⟩:=hu2;obtain⟨g',a3,a4⟩:=hu4;rw[a2] at a4
    cases a4;simp only;rw[a3,←a1,hx]
   ·obtain⟨u,hu1,hu2⟩:=D.bT hvx g1;obtain⟨u',hu3,hu4⟩:=D.bT hg3 g2;rw[hu1] at hu3
    cases hu3;unfold D.rep at hu2 hu4;obtain⟨A1,m1,k1',a1,a2⟩:=hu2;obtain⟨A2,m2,k2',a3,a4⟩:=hu4;rw[a2] at a4
    cases a4;simp only;rw[a3,←a1,hx]
   ·obtain⟨u,hu1,hu2⟩:=D.bT hvx g1;obtain⟨u',hu3,hu4⟩:=D.bT hg3 g2;rw[hu1] at hu3
    cases hu3;unfold D.rep at hu2 hu4;obtain⟨g,a1,a2⟩:=hu2;obtain⟨g',a3,a4⟩:=hu4;rw[a2] at a4
    cases a4;simp only;rw[a3,←a1,hx]
 have hO4:∀b g,O b g→lk e b=none→¬∃b∈bs,O b g:=by
  intro b g h1 h2 h3;obtain⟨b',k1,k2⟩:=h3;have:=hp.apart b b' g h1 k2;subst this;obtain⟨x,hx⟩:=hs.m0e b k1;rw[h2] at hx
  cases hx
 have hnew:∀i g,O3 i g→(∃b∈bs,O b g)∨w.heap.size≤g:=fun i g h=>q9.own i g h
 refine⟨d,rd,e,c4,fun b g=>(∃i v,μ[i]?=some (b,v)∧O3 i g)∨(lk e b=none∧O b g),⟨rfl,rfl,rfl⟩,hle,vF hι rfl rfl hd hv3,⟨fun b x hx=>?_,fun b u y hy=>?_,fun b b' g h1 h2=>?_,fun g hg=>?_,fun b g hg=>?_⟩,?_⟩
 ·cases hl:lk e b with
  | some y=>
   rw[oy hl] at hx
   cases hx;obtain⟨k1,k2⟩:=hs.kind b _ hl;rcases k2 with ⟨i,hi⟩|⟨v,rfl⟩
   ·obtain⟨z,x',l1,l2,l3,l4⟩:=hlive i b _ hi;rw[hl] at l1
    cases l1;have hS:(fun g=>(∃i v,μ[i]?=some (b,v)∧O3 i g)∨(some x=none∧O b g))=O3 i:=by
     funext g
     refine propext ⟨fun h=>?_,fun h=>.inl ⟨i,_,hi,h⟩⟩;rcases h with ⟨i',v',e1,e2⟩|⟨e1,_⟩
     ·rw[nV hs.once hi e1];exact e2
     ·cases e1
    rw[hS];refine DH hι rfl rfl hi l3 ?_ (p3.pc i x' (by rw[rR,l4]))
    revert k1
    cases x<;>simp
   ·trivial
  | none=>
   rw[tt hl] at hx;have hS:(fun g=>(∃i v,μ[i]?=some (b,v)∧O3 i g)∨((none:Option B)=none∧O b g))=O b:=by
    funext g
    refine propext ⟨fun h=>?_,fun h=>.inr ⟨rfl,h⟩⟩;rcases h with ⟨i',v',e1,e2⟩|⟨_,h⟩
    ·obtain⟨z,x',l1,_⟩:=hlive i' b _ e1;rw[hl] at l1
     cases l1
    ·exact h
   rw[hS];exact(hp.pc b x hx).le hle fun g hg=>q9.b4 g (hp.lt b g hg) (hO4 b g hg hl)
 ·have hy':(match cj μ b u 0 with|some i=>c3.ι i 0|none=>c.ι b u)=some y:=hy
  cases hpos:cj μ b u 0 with
  | some i=>
   have hi:=(dE hpos).2;rw[Nat.sub_zero] at hi;obtain⟨z,x',l1,l2,_⟩:=hlive i b u hi;exact⟨z,oy l1,by rw[l2];exact Nat.le_refl _⟩
  | none=>
   rw[hpos] at hy';obtain⟨x,hx,hv⟩:=hp.bound b u y hy'
   cases hl:lk e b with
   | some z=>
    have:=hs.ver b z x hl (by rw[←hη' b (hs.erd b z hl)];exact hx);exact⟨z,oy hl,Nat.le_trans hv this⟩
   | none=>exact⟨x,by rw[tt hl];exact hx,hv⟩
 ·rcases h1 with ⟨i,v1,e1,o1⟩|⟨n1,o1⟩<;>rcases h2 with ⟨j,v2,e2,o2⟩|⟨n2,o2⟩
  ·have:=p3.apart i j g o1 o2;subst this;rw[e1] at e2
   cases e2;rfl
  ·exfalso
   rcases hnew i g o1 with h|h
   ·exact hO4 b' g o2 n2 h
   ·have:=hp.lt b' g o2;omega
  ·exfalso
   rcases hnew j g o2 with h|h
   ·exact hO4 b g o1 n1 h
   ·have:=hp.lt b g o1;omega
  ·exact hp.apart b b' g o1 o2
 ·obtain⟨k1,k2,k3⟩:=p3.fz g hg;refine⟨k1,k2,fun b h=>?_⟩;rcases h with ⟨i,v1,e1,o1⟩|⟨n1,o1⟩
  ·exact k3 i o1
  ·rcases q9.mW g hg with h|h|h
   ·exact(hp.fz g h).2.2 b o1
   ·exact hO4 b g o1 n1 h
   ·have:=hp.lt b g o1;exact absurd h (Nat.not_le.2 this)
 ·rcases hg with ⟨i,v1,e1,o1⟩|⟨n1,o1⟩
  ·exact p3.lt i g o1
  ·exact Nat.lt_of_lt_of_le (hp.lt b g o1) q9.size
 ·refine⟨q9.os.trans hold.os,q9.tape.trans hold.tape,q9.output.trans hold.output,Nat.le_trans hold.size q9.size,fun g hg hn=>?_,fun b g h=>?_,fun g hg=>?_,hold.le.trans q9.le⟩
  ·rw[q9.b4 g (Nat.lt_of_lt_of_le hg hold.size) (fun h=>?_)]
   ·exact hold.b4 g hg hn
   ·obtain⟨b,k1,k2⟩:=h;rcases hold.own b g k2 with h|h
    ·exact hn h
    ·omega
  ·rcases h with ⟨i,v1,e1,o1⟩|⟨n1,o1⟩
   ·rcases hnew i g o1 with h|h
    ·obtain⟨b',k1,k2⟩:=h;exact hold.own b' g k2
    ·exact .inr (Nat.le_trans hold.size h)
   ·exact hold.own b g o1
  ·rcases q9.mW g hg with h|h|h
   ·exact hold.mW g h
   ·obtain⟨b',k1,k2⟩:=h;rcases hold.own b' g k2 with h|h
    ·exact .inr (.inl h)
    ·exact .inr (.inr h)
   ·exact .inr (.inr (Nat.le_trans hold.size h))
structure FH(η:Env)(l:List D)(m0:Rn)(hb:List (Nat×B))(μ:Rn)(ds':List D)(rd:List Nat)(e:List (Nat×B)):Prop where
 once:b8 m0=true
 Nw:b8 μ=true
 blk:∀b x,lk hb b=some x→η b=some x∧b∈rd
 m0e:∀b v,(b,v)∈m0→∃x,lk e b=some x
 erd:∀b x,lk e b=some x→b∈rd
 kind:∀b x,lk e b=some x→(match x with | .lp _ _=>false | .gh _ _ _=>false|_=>true)=true∧((∃i:Nat,μ[i]?=some (b,x.ver))∨∃v,x=.gone v)
 ver:∀b x y,lk e b=some x→η b=some y→y.ver≤x.ver
 b4:∀(i b v:Nat),μ[i]?=some (b,v)→v=nv η b∨(∃j o:Nat,l[j]?=some (.ptr b v o)∧ds'[j]?=some (.ptr i 0 o))∨∃j:Nat,l[j]?=some (.own b v)∧ds'[j]?=some (.own i 0)
theorem FH.back{η:Env}{l:List D}{m0:Rn}{hb:List (Nat×B)}{μ:Rn}{ds':List D}{rd:List Nat}{e:List (Nat×B)}(h:FH η l m0 hb μ ds' rd e):zb η l (m0.map (·.1)) μ ds' rd e:=
 ⟨h.Nw,fun b hb=>by obtain⟨⟨b',v⟩,h1,rfl⟩:=List.mem_map.1 hb;exact h.m0e b' v h1,h.erd,fun b x hx=>⟨by have:=(h.kind b x hx).1;revert this;cases x<;>simp,(h.kind b x hx).2⟩,h.ver,fun i b v hi=>by
  rcases h.b4 i b v hi with h|h|h
  ·exact .inl h
  ·exact .inr (.inl h)
  ·exact .inr (.inr (.inl h))⟩
theorem s3 {P:Program} {X:Tx} (hX:j5 P X) {f:FuncId} {fi:Fi} (hf:X.fi f=some fi) {η:Env} {l l0 x x0:List D} {m0 μ:Rn} {hb h0:List (Nat×B)} {d d':D} {ds':List D} {rd:List Nat} {e h'':List (Nat×B)}
  (ho:b8 m0=true) (hbk:∀b x,lk hb b=some x→η b=some x∧b∈rd) (hs:zb η (l++x) (m0.map (·.1)) μ ds' rd e) (hm0:dq m0 [] hb m0 0=some h0) (hl:aN m0 l=some l0) (hxr:aN m0 x=some x0) (hxv:∀η' c O w,(∀b∈rd,η' b=η b)→Hp c O η' w→∃us,D.ah c x us) (hN:Nat.ble l0.length fi.N=true) (hd:bu μ d=some d') (he:dq μ [] e μ 0=some h'')
  (hrun:∀vs,Sn P X f (⟨d',h''++[(μ.length,.gh 0 vs ds')]⟩:sf) ⟨⟨f,fi.N,mD 0 l0,[.code fi.body],[],none⟩,[],(m0.length,.gh 0 vs (l0++x0)) :: h0,m0.length+1⟩):dp P X.Γ η f l d rd e:=by
 obtain⟨hcf,fn,hfn,hbd,hNn,hrs⟩:=hX.fi _ _ hf;refine⟨fun η' hη' W c O w vs hΓ hp hold hvs=>⟨hcf,fun cs=>?_⟩⟩;have hblk:∀b x,lk hb b=some x→η' b=some x:=fun b x hx=>(hη' b (hbk b x hx).2).trans (hbk b x hx).1
 have hp1:=Hp.ren hp ho hblk hm0;have hvs1:D.ah (rC m0 c) l0 vs:=cg hl hvs;obtain⟨us,hus⟩:=hxv η' c O w hη' hp;have hvx:=D.bJ hvs hus;have hvx1:D.ah (rC m0 c) (l0++x0) (vs++us):=D.bJ hvs1 (cg hxr hus);have hkeys:∀{h h':List (Nat×B)} {m:Rn},dq m [] h m 0=some h'→∀i x,lk h' i=some x→i<m.length:=by
  intro h h' m hm i x hx;obtain⟨_,b,y,k1,_⟩:=ji hm hx;rw[Nat.sub_zero] at k1;exact(List.getElem?_eq_some_iff.1 k1).1
 have hp2:Hp (rC m0 c) (rO m0 O) (lk ((m0.length,.gh 0 (vs++us) (l0++x0)) :: h0)) w:=by
  rw[bW];refine⟨fun i x hx=>?_,fun i v y hy=>?_,hp1.apart,hp1.fz,hp1.lt⟩
  ·by_cases e:m0.length=i
   ·subst e;rw[bj] at hx
    cases hx;exact hvx1
   ·rw[aF e] at hx;exact hp1.pc i x hx
  ·obtain⟨x,hx,hv⟩:=hp1.bound i v y hy;have:m0.length≠i:=by
    have:=hkeys hm0 i x hx;omega
   exact⟨x,by rw[aF this];exact hx,hv⟩
 have hlen:=D.aW hvs1;have hs0:=nJ (N:=fi.N) hvs1 hN;have hrun:=hrun (vs++us);unfold Sn at hrun;obtain⟨v,w',fr,d0,h0',c0,O0,q1,q2,q3,⟨x0,is0,m,qx,qo,qe,qh⟩,q7,q8,q9⟩:=eY.fn (fun q h ⟨x,is,m,e,_⟩=>by simp[D.toF] at e) <| hrun ⟨w,fun g=>∃i,rO m0 O i g,rC m0 c⟩ cs hΓ (rC m0 c) (rO m0 O) ((bF f none).atR ⟨vs.toArray++Array.replicate (fi.N - vs.toArray.size) undef,[]⟩ [.code fi.body]) [] w
  ⟨⟨_,_,none,rfl,hs0,⟨_,_,rfl,rfl,rfl⟩,rfl,rfl⟩,rfl,hp2,⟨rfl,rfl,rfl,Nat.le_refl _,fun _ _ _=>rfl,fun i g h=>.inl ⟨i,h⟩,fun g hg=>.inl hg,Ext.refl _ _⟩,rfl⟩
 have q7:=oS (c:=cfz c0 O0 is0 w') (jR q8 is0 6 d0 x0 is0 v qx (fun b h=>h) q7);have q9:=q9.fz_ q8 is0;have q8:=q8.fz_ is0 (gG 6 d0 x0 is0 qx);rw[I6] at q8;have qe:x0.toD=d':=qe;rw[qe] at q7;generalize cfz c0 O0 is0 w'=c2 at *;generalize Ofz O0 is0=O2 at *;generalize aS (lk h0') is0++h0'=h2 at *;have qd:bu m d'=some d':=by rw[←qe];exact jf m x0
 have p3:=Hp.ren q8 qo (fun _ _ h=>h) qh;have hv3:=sx qd q7;have hW:∀g,(∃i,rO m0 O i g)→∃b∈m0.map (·.1),O b g:=fun g ⟨i,b,v,e1,e2⟩=>⟨b,List.mem_map.2 ⟨(b,v),List.mem_of_getElem? e1,rfl⟩,e2⟩
 refine⟨.returned v,w',fr,⟨v,rfl,uT hs hd he hη' hp hold hvx p3 ?_ hv3⟩,?_,q2,q3⟩
 ·exact⟨q9.os,q9.tape,q9.output,q9.size,fun g hg hn=>q9.b4 g hg (fun h=>hn (hW g h)),fun i g ⟨b,v,_,h⟩=>(q9.own b g h).imp (hW g) id,fun g hg=>(q9.mW g hg).imp id (fun h=>h.imp (hW g) id),q9.le⟩
 ·rw[s5 hfn hbd,hNn];exact q1
theorem jw {P:Program} {X:Tx} (hX:j5 P X) {f:FuncId} {fi:Fi} (hf:X.fi f=some fi) {η:Env} {l l0 x x0:List D} {m0 μ:Rn} {hb h0:List (Nat×B)} {d d':D} {ds':List D} {rd:List Nat} {e h'':List (Nat×B)}
  (hs:FH η (l++x) m0 hb μ ds' rd e) (hm0:dq m0 [] hb m0 0=some h0) (hl:aN m0 l=some l0) (hxr:aN m0 x=some x0) (hxv:∀η' c O w,(∀b∈rd,η' b=η b)→Hp c O η' w→∃us,D.ah c x us) (hN:Nat.ble l0.length fi.N=true) (hd:bu μ d=some d') (he:dq μ [] e μ 0=some h'')
  (hrun:∀vs,Sn P X f (⟨d',h''++[(μ.length,.gh 0 vs ds')]⟩:sf) ⟨⟨f,fi.N,mD 0 l0,[.code fi.body],[],none⟩,[],(m0.length,.gh 0 vs (l0++x0)) :: h0,m0.length+1⟩):dp P X.Γ η f l d rd e:=s3 hX hf hs.once hs.blk hs.back hm0 hl hxr hxv hN hd he hrun
theorem D.su{c:Cf}:∀(x y:List D) (u:List Value),D.ah c (x++y) u→∃u1 u2,u=u1++u2∧D.ah c x u1∧D.ah c y u2
 | [],y,u,h=>⟨[],u,rfl,by unfold D.ah;rfl,h⟩
 | a :: x,y,u,h=>by
  rw[List.cons_append] at h;unfold D.ah at h;obtain⟨v,us,rfl,h1,h2⟩:=h;obtain⟨u1,u2,rfl,h3,h4⟩:=D.su x y us h2;exact⟨v :: u1,u2,rfl,by unfold D.ah;exact⟨v,u1,rfl,h1,h3⟩,h4⟩
theorem cZ{η η':Env}:∀(is:List Nat),(∀b∈is,η' b=η b)→aS η' is=aS η is
 | [],_=>rfl
 | b :: l,h=>by
  simp only[aS,h b (List.mem_cons_self ..),cZ l fun b hb=>h b (List.mem_cons_of_mem _ hb)]
theorem dp.fz{P:Program}{Γ:Nat→Option (List F)}{η:Env}{f:FuncId}{l1 l2:List D}{fl:List F}{is rd:List Nat}{d:D}{e:List (Nat×B)}(hm:cz (D.toF η 6) l2=some (fl,is))(h:dp P Γ (Res.lk2 (aS η is) η) f (l1++fl.map F.toD) d rd e):dp P Γ η f (l1++l2) d (rd++is) (e++aS η is):=by
 refine⟨fun η' hη' W c O w vs hΓ hp ho hvs=>?_⟩;have hi:∀b∈is,η' b=η b:=fun b hb=>hη' b (List.mem_append_right _ hb)
 have hm':cz (D.toF η' 6) l2=some (fl,is):=fA (fun d x is' h3 h4=>fv 6 d x is' h3 (fun b' hb'=>hi b' (h4 b' hb'))) hm;have hg:=cZ is hi;obtain⟨u1,u2,rfl,hu1,hu2⟩:=D.su l1 l2 vs hvs;have hfl:=fL (jR hp is 6) hm' (fun b h=>h) hu2;have hp1:=hp.fz_ is (dC (gG 6) hm');have ho1:=ho.fz_ hp is;have hle1:=pO hp is;have hη2:∀b∈rd,Res.lk2 (aS η' is) η' b=Res.lk2 (aS η is) η b:=by
  intro b hb;rw[hg]
  by_cases hbi:b∈is
  ·obtain⟨x,hx⟩:=dC (gG 6) hm b hbi;rw[(aY η η' is b).2 hbi x hx,(aY η η is b).2 hbi x hx]
  ·rw[(aY η η' is b).1 hbi,(aY η η is b).1 hbi];exact hη' b (List.mem_append_left _ hb)
 obtain⟨q1,q2⟩:=h.go (Res.lk2 (aS η' is) η') hη2 W (cfz c O is w) (Ofz O is) w (u1++u2) (fun g cs hg=>F.rep.ext hle1.ext _ _ (hΓ g cs hg)) hp1 ho1 (D.bJ (D.ah.le hle1 _ _ hu1) (jt hfl));refine⟨q1,q2.mono fun e1 w' ⟨v,h3,h4⟩=>⟨v,h3,?_⟩⟩;refine Res.after (rd0:=rd++is) hp h4 fun d' rd' e' hk=>?_
 obtain⟨rfl,rfl,rfl⟩:=hk;rw[hg];exact⟨rfl,rfl,rfl⟩
theorem mc {P:Program} {X:Tx} (hX:j5 P X) {f:FuncId} {fi:Fi} (hf:X.fi f=some fi) {tc e sz:Nat} {rows rows':List (List F)} {l:List F} {r:F} (hN:Nat.ble (l.length+1) fi.N=true)
  (hrun:∀vs,Sn P X f (⟨r.toD,[(0,.va 0 tc [.own 1 0]),(1,.ro 0 e sz rows'),(2,.gh 0 vs (.ptr 0 0 0 :: l.map F.toD))]⟩:sf) ⟨⟨f,fi.N,mD 0 (.ptr 0 0 0 :: l.map F.toD),[.code fi.body],[],none⟩,[],[(2,.gh 0 vs (.ptr 0 0 0 :: l.map F.toD)),(0,.va 0 tc [.own 1 0]),(1,.ro 0 e sz rows)],3⟩)
  {η:Env} {b v b2 v2:Nat} (h1:η b=some (.va v tc [.own b2 v2])) (h2:η b2=some (.ro v2 e sz rows)) :
  dp P X.Γ η f (.ptr b v 0 :: l.map F.toD) r.toD [b,b2] [(b,.va v tc [.own b2 (nv η b2)]),(b2,.ro (nv η b2) e sz rows')]:=by
 have hne:Nat.beq b b2=false:=by
  rw[←Bool.not_eq_true];intro h;have:=Nat.eq_of_beq_eq_true h;subst this;rw[h1] at h2
  cases h2
 have hne':Nat.beq b2 b=false:=by rw[←Bool.not_eq_true];intro h;rw[Nat.eq_of_beq_eq_true h,Nat.beq_refl] at hne;cases hne
 have hlk:∀{x y:B} {i:Nat} {z:B},lk [(b,x),(b2,y)] i=some z→(i=b∧z=x)∨(i=b2∧z=y):=by
  intro x y i z h;simp only[lk] at h
  cases e1:Nat.beq b i with
  | true=>rw[e1] at h;cases h;exact .inl ⟨(Nat.eq_of_beq_eq_true e1).symm,rfl⟩
  | false=>
   rw[e1] at h
   cases e2:Nat.beq b2 i with
   | true=>rw[e2] at h;cases h;exact .inr ⟨(Nat.eq_of_beq_eq_true e2).symm,rfl⟩
   | false=>rw[e2] at h;cases h
 have l1:∀{x y:B},lk [(b,x),(b2,y)] b=some x:=by intro x y;simp[lk]
 have l2:∀{x y:B},lk [(b,x),(b2,y)] b2=some y:=by intro x y;simp[lk,hne]
 have ho:∀{u u2:Nat},b8 [(b,u),(b2,u2)]=true:=by intro u u2;simp[b8,hne']
 have hp:∀{u u2:Nat},cj [(b,u),(b2,u2)] b u 0=some 0:=by intro u u2;simp[cj]
 have hp2:∀{u u2:Nat},cj [(b,u),(b2,u2)] b2 u2 0=some 1:=by intro u u2;simp[cj,hne']
 refine jw hX hf (x:=[]) (x0:=[]) (l:=.ptr b v 0 :: l.map F.toD) (l0:=.ptr 0 0 0 :: l.map F.toD) (m0:=[(b,v),(b2,v2)]) (μ:=[(b,v),(b2,nv η b2)]) (hb:=[(b,.va v tc [.own b2 v2]),(b2,.ro v2 e sz rows)]) (h0:=[(0,.va 0 tc [.own 1 0]),(1,.ro 0 e sz rows)]) (d':=r.toD) (ds':=.ptr 0 0 0 :: l.map F.toD) (h'':=[(0,.va 0 tc [.own 1 0]),(1,.ro 0 e sz rows')]) ⟨ho,ho,?_,?_,?_,?_,?_,?_⟩ ?_ ?_ rfl (fun _ _ _ _ _ _=>⟨[],by simp[D.ah]⟩) ?_ (jf _ _) ?_ (fun vs=>by rw[List.append_nil];exact hrun vs)
 ·intro i x h;rcases hlk h with ⟨rfl,rfl⟩|⟨rfl,rfl⟩
  ·exact⟨h1,List.mem_cons_self ..⟩
  ·exact⟨h2,List.mem_cons_of_mem _ (List.mem_cons_self ..)⟩
 ·intro i u h;simp only[List.mem_cons,List.not_mem_nil,or_false,Prod.mk.injEq] at h;rcases h with ⟨rfl,rfl⟩|⟨rfl,rfl⟩
  ·exact⟨_,l1⟩
  ·exact⟨_,l2⟩
 ·intro i x h;rcases hlk h with ⟨rfl,rfl⟩|⟨rfl,rfl⟩
  ·exact List.mem_cons_self ..
  ·exact List.mem_cons_of_mem _ (List.mem_cons_self ..)
 ·intro i x h;rcases hlk h with ⟨rfl,rfl⟩|⟨rfl,rfl⟩
  ·exact⟨rfl,.inl ⟨0,rfl⟩⟩
  ·exact⟨rfl,.inl ⟨1,rfl⟩⟩
 ·intro i x y h hy;rcases hlk h with ⟨rfl,rfl⟩|⟨rfl,rfl⟩
  ·rw[h1] at hy
   cases hy;exact Nat.le_refl _
  ·rw[h2] at hy
   cases hy;show v2≤nv η i
   unfold nv;rw[h2];exact Nat.le_succ _
 ·intro i j u h
  match i,h with
  | 0,h=>cases h;exact .inr (.inl ⟨0,0,rfl,rfl⟩)
  | 1,h=>cases h;exact .inl rfl
 ·simp only[dq,l1,l2,B.ver,Nat.beq_refl,cond_true,eI,aN,bu,hp2]
 ·simp only[aN,bu,hp,eH]
 ·rw[List.length_cons,List.length_map];exact hN
 ·simp only[dq,l1,l2,B.ver,Nat.beq_refl,cond_true,eI,aN,bu,hp2]
theorem zZ{η:Env}:∀{e:List (Nat×B)},(∀p∈e,η p.1=some p.2)→Res.lk2 e η=η
 | [],_=>rfl
 | (b,x) :: l,h=>by
  show up (Res.lk2 l η) b x=η
  rw[zZ fun p hp=>h p (List.mem_cons_of_mem _ hp)]
  funext i
  by_cases e:b=i
  ·subst e;rw[bj];exact(h (b,x) (List.mem_cons_self ..)).symm
  ·rw[aF e]
theorem dp.idle{P:Program}{Γ:Nat→Option (List F)}{η:Env}{f:FuncId}{l:List D}{d:D}{rd:List Nat}{e:List (Nat×B)}(h:dp P Γ η f l d rd e)(he:∀p∈e,η p.1=some p.2∧p.1∈rd):dp P Γ η f l d rd []:=⟨fun η' hη' W c O w vs hΓ hp ho hvs=>by
 obtain⟨q1,q2⟩:=h.go η' hη' W c O w vs hΓ hp ho hvs;refine⟨q1,q2.mono fun e1 w' ⟨v,h3,d',rd',e',c',O',⟨hd,hr,hee⟩,k2,k3,k4,k5⟩=>⟨v,h3,_,_,_,c',O',⟨rfl,rfl,rfl⟩,k2,by rw[←hd];exact k3,?_,k5⟩⟩;rw[hee,zZ fun p hp=>(hη' _ (he p hp).2).trans (he p hp).1] at k4;exact k4⟩
theorem Mh {P:Program} {X:Tx} (hX:j5 P X) {f:FuncId} {fi:Fi} (hf:X.fi f=some fi) {tc e sz:Nat} {rows:List (List F)} {l:List F} {r:F} (hN:Nat.ble (l.length+1) fi.N=true)
  (hrun:∀vs,Sn P X f (⟨r.toD,[(0,.va 0 tc [.own 1 0]),(1,.ro 0 e sz rows),(2,.gh 0 vs (.ptr 0 0 0 :: l.map F.toD++[.own 1 0]))]⟩:sf) ⟨⟨f,fi.N,mD 0 (.ptr 0 0 0 :: l.map F.toD),[.code fi.body],[],none⟩,[],[(2,.gh 0 vs (.ptr 0 0 0 :: l.map F.toD++[.own 1 0])),(0,.va 0 tc [.own 1 0]),(1,.ro 0 e sz rows)],3⟩)
  {η:Env} {b v b2 v2:Nat} (h1:η b=some (.va v tc [.own b2 v2])) (h2:η b2=some (.ro v2 e sz rows)) :
  dp P X.Γ η f (.ptr b v 0 :: l.map F.toD) r.toD [b,b2] []:=by
 have hne:Nat.beq b b2=false:=by
  rw[←Bool.not_eq_true];intro h;have:=Nat.eq_of_beq_eq_true h;subst this;rw[h1] at h2
  cases h2
 have hne':Nat.beq b2 b=false:=by rw[←Bool.not_eq_true];intro h;rw[Nat.eq_of_beq_eq_true h,Nat.beq_refl] at hne;cases hne
 have hlk:∀{x y:B} {i:Nat} {z:B},lk [(b,x),(b2,y)] i=some z→(i=b∧z=x)∨(i=b2∧z=y):=by
  intro x y i z h;simp only[lk] at h
  cases e1:Nat.beq b i with
  | true=>rw[e1] at h;cases h;exact .inl ⟨(Nat.eq_of_beq_eq_true e1).symm,rfl⟩
  | false=>
   rw[e1] at h
   cases e2:Nat.beq b2 i with
   | true=>rw[e2] at h;cases h;exact .inr ⟨(Nat.eq_of_beq_eq_true e2).symm,rfl⟩
   | false=>rw[e2] at h;cases h
 have l1:∀{x y:B},lk [(b,x),(b2,y)] b=some x:=by intro x y;simp[lk]
 have l2:∀{x y:B},lk [(b,x),(b2,y)] b2=some y:=by intro x y;simp[lk,hne]
 have ho:b8 [(b,v),(b2,v2)]=true:=by simp[b8,hne']
 have hp:cj [(b,v),(b2,v2)] b v 0=some 0:=by simp[cj]
 have hp2:cj [(b,v),(b2,v2)] b2 v2 0=some 1:=by simp[cj,hne']
 have key:dp P X.Γ η f (.ptr b v 0 :: l.map F.toD) r.toD [b,b2] [(b,.va v tc [.own b2 v2]),(b2,.ro v2 e sz rows)]:=by
  refine jw hX hf (x:=[.own b2 v2]) (x0:=[.own 1 0]) (l:=.ptr b v 0 :: l.map F.toD) (l0:=.ptr 0 0 0 :: l.map F.toD) (m0:=[(b,v),(b2,v2)]) (μ:=[(b,v),(b2,v2)]) (hb:=[(b,.va v tc [.own b2 v2]),(b2,.ro v2 e sz rows)]) (h0:=[(0,.va 0 tc [.own 1 0]),(1,.ro 0 e sz rows)]) (d':=r.toD) (ds':=D.ptr 0 0 0 :: l.map F.toD++[D.own 1 0]) (h'':=[(0,.va 0 tc [.own 1 0]),(1,.ro 0 e sz rows)]) ⟨ho,ho,?_,?_,?_,?_,?_,?_⟩ ?_ ?_ ?_ ?_ ?_ (jf _ _) ?_ hrun
  ·intro i x h;rcases hlk h with ⟨rfl,rfl⟩|⟨rfl,rfl⟩
   ·exact⟨h1,List.mem_cons_self ..⟩
   ·exact⟨h2,List.mem_cons_of_mem _ (List.mem_cons_self ..)⟩
  ·intro i u h;simp only[List.mem_cons,List.not_mem_nil,or_false,Prod.mk.injEq] at h;rcases h with ⟨rfl,rfl⟩|⟨rfl,rfl⟩
   ·exact⟨_,l1⟩
   ·exact⟨_,l2⟩
  ·intro i x h;rcases hlk h with ⟨rfl,rfl⟩|⟨rfl,rfl⟩
   ·exact List.mem_cons_self ..
   ·exact List.mem_cons_of_mem _ (List.mem_cons_self ..)
  ·intro i x h;rcases hlk h with ⟨rfl,rfl⟩|⟨rfl,rfl⟩
   ·exact⟨rfl,.inl ⟨0,rfl⟩⟩
   ·exact⟨rfl,.inl ⟨1,rfl⟩⟩
  ·intro i x y h hy;rcases hlk h with ⟨rfl,rfl⟩|⟨rfl,rfl⟩
   ·rw[h1] at hy
    cases hy;exact Nat.le_refl _
   ·rw[h2] at hy
    cases hy;exact Nat.le_refl _
  ·intro i j u h
   match i,h with
   | 0,h=>cases h;exact .inr (.inl ⟨0,0,rfl,rfl⟩)
   | 1,h=>cases h;exact .inr (.inr ⟨l.length+1,by simp,by simp⟩)
  ·simp only[dq,l1,l2,B.ver,Nat.beq_refl,cond_true,eI,aN,bu,hp2]
  ·simp only[aN,bu,hp,eH]
  ·simp only[aN,bu,hp2]
  ·intro η' c O w hη hpw;obtain⟨A,k,vr,k1,_⟩:=hpw.pc b2 _ ((hη b2 (by simp)).trans h2);exact⟨[.slice A rows.length k],by unfold D.ah;exact⟨_,_,rfl,by unfold D.rep;exact⟨A,_,k,k1,rfl⟩,by unfold D.ah;rfl⟩⟩
  ·rw[List.length_cons,List.length_map];exact hN
  ·simp only[dq,l1,l2,B.ver,Nat.beq_refl,cond_true,eI,aN,bu,hp2]
 refine key.idle fun p hp=>?_;simp only[List.mem_cons,List.not_mem_nil,or_false] at hp;rcases hp with rfl|rfl
 ·exact⟨h1,by simp⟩
 ·exact⟨h2,by simp⟩
structure Np(P:Program)(Γ:Nat→Option (List F))(f:FuncId)(tc e sz:Nat)(rows:List (List F))(l:List F)(r:F)(rows':List (List F)):Prop where
 own:∀(η:Env) (b v b2 v2:Nat),η b=some (.va v tc [.own b2 v2])→η b2=some (.ro v2 e sz rows)→dp P Γ η f (.ptr b v 0 :: l.map F.toD) r.toD [b,b2] [(b,.va v tc [.own b2 (nv η b2)]),(b2,.ro (nv η b2) e sz rows')]
structure MY(P:Program)(Γ:Nat→Option (List F))(f:FuncId)(tc e sz:Nat)(l:List F)(r:F)(rows':List (List F)):Prop where
 nil:∀(η:Env) (b v t:Nat),η b=some (.va v tc [.fr (.vl (.slice none 0 0))])→η t=none→dp P Γ η f (.ptr b v 0 :: l.map F.toD) r.toD [b,t] [(b,.va v tc [.own t (nv η t)]),(t,.ro (nv η t) e sz rows')]
structure Mx(P:Program)(Γ:Nat→Option (List F))(f:FuncId)(tc e sz:Nat)(rows:List (List F))(l:List F)(r:F):Prop where
 own:∀(η:Env) (b v b2 v2:Nat),η b=some (.va v tc [.own b2 v2])→η b2=some (.ro v2 e sz rows)→dp P Γ η f (.ptr b v 0 :: l.map F.toD) r.toD [b,b2] []
class HR(P:Program)(Γ:Nat→Option (List F))(f:Nat)(tc e sz:Nat)(rows:List (List F))(l:List F)(r:outParam F)(pre:outParam Prop):Prop where
 h:pre→Mx P Γ f tc e sz rows l r
structure NA(P:Program)(Γ:Nat→Option (List F))(f tc e sz:Nat)(rows:List (List F))(l:List F)(k:F→Prop):Prop where
 h:∃r,Mx P Γ f tc e sz rows l r∧k r
instance{P:Program}{Γ:Nat→Option (List F)}{f tc e sz:Nat}{rows:List (List F)}{l:List F}{r:F}{pre:Prop}{k:F→Prop}[hc:HR P Γ f tc e sz rows l r pre]:Arm (NA P Γ f tc e sz rows l k) (SdA pre (k r)):=⟨fun ⟨h,hk⟩=>⟨r,hc.h h,hk⟩⟩
class Mr(f:Nat):Prop where
 h:True
def LD(P:Program)(Γ:Nat→Option (List F))(t:Nat)(η:Env)(f:Nat)(l:List D)(k:Kr Prop):Prop:=match l with
 | .ptr b v 0 :: ds=>(match η b,cz (D.toF η 6) ds with
  | some (.va v' tc [.own b2 v2]),some (fl,[])=>(match η b2 with
   | some (.ro v2' e sz rows)=>bif Nat.beq v v'&&Nat.beq v2 v2' then F.fos fl fun fl=>NA P Γ f tc e sz rows fl fun r=>k r.toD [b,b2] [] else False
   | _=>False)
  | _,_=>False)
 | _=>False
theorem JM{P:Program}{Γ:Nat→Option (List F)}{t:Nat}{η:Env}{f:Nat}{l:List D}{k:Kr Prop}(h:LD P Γ t η f l k):dR P Γ t η f l k:=by
 unfold LD at h
 split at h
 ·rename_i b v ds
  split at h
  ·rename_i v' tc b2 v2 fl hb hm
   split at h
   ·rename_i v2' e sz rows hb2
    cases hc:(Nat.beq v v'&&Nat.beq v2 v2') with
    | false=>rw[hc] at h;exact h.elim
    | true=>
     rw[hc,cond_true,F.cn] at h;simp only[Bool.and_eq_true] at hc;obtain⟨c1,c2⟩:=hc
     cases Nat.eq_of_beq_eq_true c1
     cases Nat.eq_of_beq_eq_true c2;obtain⟨r,hp,hk⟩:=h.h;have q:=dp.fz (l1:=[.ptr b v 0]) hm (hp.own _ b v b2 v2 (by exact hb) (by exact hb2));exact⟨_,_,_,q,hk⟩
   ·exact h.elim
  ·exact h.elim
 ·exact h.elim
instance{P:Program}{Γ:Nat→Option (List F)}{t:Nat}{η:Env}{f:Nat}{l:List D}{k:Kr Prop}[Mr f]:Arm (dR P Γ t η f l k) (LD P Γ t η f l k):=⟨JM⟩
class HA(P:Program)(Γ:Nat→Option (List F))(f:Nat)(tc e sz:Nat)(rows:List (List F))(l:List F)(r:outParam F)(rows':outParam (List (List F)))(pre:outParam Prop):Prop where
 h:pre→Np P Γ f tc e sz rows l r rows'
class HN(P:Program)(Γ:Nat→Option (List F))(f:Nat)(tc:Nat)(l:List F)(e sz:outParam Nat)(r:outParam F)(rows':outParam (List (List F)))(pre:outParam Prop):Prop where
 h:pre→MY P Γ f tc e sz l r rows'
structure MQ(P:Program)(Γ:Nat→Option (List F))(f tc e sz:Nat)(rows:List (List F))(l:List F)(k:F→List (List F)→Prop):Prop where
 h:∃r rows',Np P Γ f tc e sz rows l r rows'∧k r rows'
structure NH(P:Program)(Γ:Nat→Option (List F))(f tc:Nat)(l:List F)(k:Nat→Nat→F→List (List F)→Prop):Prop where
 h:∃e sz r rows',MY P Γ f tc e sz l r rows'∧k e sz r rows'
instance{P:Program}{Γ:Nat→Option (List F)}{f tc e sz:Nat}{rows rows':List (List F)}{l:List F}{r:F}{pre:Prop}{k:F→List (List F)→Prop}[hc:HA P Γ f tc e sz rows l r rows' pre]:Arm (MQ P Γ f tc e sz rows l k) (SdA pre (k r rows')):=⟨fun ⟨h,hk⟩=>⟨r,rows',hc.h h,hk⟩⟩
class B0(f:Nat):Prop where
 h:True
def Lt(P:Program)(Γ:Nat→Option (List F))(t:Nat)(η:Env)(f:Nat)(l:List D)(k:Kr Prop):Prop:=match l with
 | .ptr b v 0 :: ds=>(match η b,cz (D.toF η 6) ds with
  | some (.va v' tc [.own b2 v2]),some (fl,is)=>(match η b2 with
   | some (.ro v2' e sz rows)=>bif Nat.beq v v'&&Nat.beq v2 v2' && !is.elem b && !is.elem b2 then F.fos fl fun fl=>MQ P Γ f tc e sz rows fl fun r rows'=>k r.toD (b :: b2 :: is) ((b,.va v tc [.own b2 (nv η b2)]) :: (b2,.ro (nv η b2) e sz rows') :: aS η is) else False
   | _=>False)
  | some (.va v' tc [.fr (.vl (.slice none 0 0))]),some (fl,is)=>(match η t with
   | none=>bif Nat.beq v v' && !is.elem b && !is.elem t then F.fos fl fun fl=>NH P Γ f tc fl fun e sz r rows'=>k r.toD (b :: t :: is) ((b,.va v tc [.own t (nv η t)]) :: (t,.ro (nv η t) e sz rows') :: aS η is) else False
   | some _=>False)
  | _,_=>False)
 | _=>False
theorem IV{P:Program}{Γ:Nat→Option (List F)}{t:Nat}{η:Env}{f:Nat}{l:List D}{k:Kr Prop}(h:Lt P Γ t η f l k):dR P Γ t η f l k:=by
 unfold Lt at h
 split at h
 ·rename_i b v ds
  split at h
  ·rename_i v' tc b2 v2 fl is hb hm
   split at h
   ·rename_i v2' e sz rows hb2
    cases hc:(Nat.beq v v'&&Nat.beq v2 v2' && !is.elem b && !is.elem b2) with
    | false=>rw[hc] at h;exact h.elim
    | true=>
     rw[hc,cond_true,F.cn] at h;simp only[Bool.and_eq_true,Bool.not_eq_true',List.elem_eq_contains,List.contains_eq_mem,decide_eq_false_iff_not] at hc;obtain⟨⟨⟨c1,c2⟩,c3⟩,c4⟩:=hc
     cases Nat.eq_of_beq_eq_true c1
     cases Nat.eq_of_beq_eq_true c2;obtain⟨r,rows',hp,hk⟩:=h.h;have q1:=((aY η η is b).1 c3).trans hb;have q2:=((aY η η is b2).1 c4).trans hb2;have:=dp.fz (l1:=[.ptr b v 0]) hm (hp.own _ b v b2 v2 q1 q2);rw[kN is c4] at this;exact⟨_,_,_,this,hk⟩
   ·exact h.elim
  ·rename_i v' tc fl is hb hm
   split at h
   ·rename_i ht
    cases hc:(Nat.beq v v' && !is.elem b && !is.elem t) with
    | false=>rw[hc] at h;exact h.elim
    | true=>
     rw[hc,cond_true,F.cn] at h;simp only[Bool.and_eq_true,Bool.not_eq_true',List.elem_eq_contains,List.contains_eq_mem,decide_eq_false_iff_not] at hc;obtain⟨⟨c1,c3⟩,c4⟩:=hc
     cases Nat.eq_of_beq_eq_true c1;obtain⟨e,sz,r,rows',hp,hk⟩:=h.h;have q1:=((aY η η is b).1 c3).trans hb;have q2:=((aY η η is t).1 c4).trans ht;have:=dp.fz (l1:=[.ptr b v 0]) hm (hp.nil _ b v t q1 q2);rw[kN is c4] at this;exact⟨_,_,_,this,hk⟩
   ·exact h.elim
  ·exact h.elim
 ·exact h.elim
instance{P:Program}{Γ:Nat→Option (List F)}{t:Nat}{η:Env}{f:Nat}{l:List D}{k:Kr Prop}[B0 f]:Arm (dR P Γ t η f l k) (Lt P Γ t η f l k):=⟨IV⟩
theorem Im{e sz:Nat}{S:Nat→Prop}{w:World}:(Sl.own e sz none 0 0 []).on S w:=⟨World.ownsRow_nil w 0 e sz,rfl,by simp,fun g hg=>by simp[Value.ownBlock] at hg⟩
abbrev uo:D:=.fr (.vl (.slice none 0 0))
theorem Hp.none_{c:Cf}{O:Nat→Nat→Prop}{η:Env}{w:World}{b e sz:Nat}(h:Hp c O η w)(hb:η b=none):c.le (c.add b 0 (none,0,0))∧Hp (c.add b 0 (none,0,0)) (upO O b fun _=>False) (up η b (.ro 0 e sz [])) w:=by
 have hv:nv η b=0:=by unfold nv;rw[hb]
 have hf:=h.fresh b;rw[hv] at hf;refine⟨Cf.eT hf,h.upd Chg.refl (fun g hg=>hg.elim) (Cf.eT hf) rfl rfl ?_ ⟨none,0,[],Cf.cY,by simp[F.aG],by simp,Im⟩⟩;have:=h.cF (b:=b) (y:=(none,0,0)) (x':=.ro 0 e sz []) hv.symm;rw[hv] at this;exact this
theorem Old.none_{W:Bs}{c:Cf}{O:Nat→Nat→Prop}{w:World}{b:Nat}{y:Option Addr×Nat×Nat}(h:Old W c O w):Old W (c.add b 0 y) (upO O b fun _=>False) w:=h.upd Chg.refl (fun g hg=>hg.elim) rfl rfl
section
variable {ρ:Type} [jl ρ] {P:Program} {X:Tx} {f0:Nat} {r:ρ} {f N:Nat} {s:List (Nat×D)} {ki:List KI} {ds:List (Nat×Nat)} {ro:Option (Nat×Nat)} {cs:List Fm} {h:List (Nat×B)} {nx:Nat}
theorem H5{s:List (Nat×D)}{k:Nat}{d:D}{j:Nat}{x:D}(hx:lk ((k,d) :: s) j=some x):(k=j∧x=d)∨lk s j=some x:=by
 simp only[lk] at hx
 cases e:Nat.beq k j with
 | true=>rw[e] at hx;cases hx;exact .inl ⟨Nat.eq_of_beq_eq_true e,rfl⟩
 | false=>rw[e] at hx;exact .inr hx
theorem Sn.ng(k e sz:Nat)(hs:lk s k=some uo)(hf:lk h nx=none)(H:Sn P X f0 r ⟨⟨f,N,(k,.own nx 0) :: s,ki,ds,ro⟩,cs,(nx,.ro 0 e sz []) :: h,nx+1⟩):Sn P X f0 r ⟨⟨f,N,s,ki,ds,ro⟩,cs,h,nx⟩:=by
 unfold Sn Snd at *;intro W cs0 hΓ c O fr frs w hr;obtain⟨hle,hp⟩:=Hp.none_ (e:=e) (sz:=sz) hr.hp hf;obtain⟨a,todo,rr,h1,h2,h3,h4,h5⟩:=hr.top.ex;refine H W cs0 hΓ (c.add nx 0 (none,0,0)) (upO O nx fun _=>False) fr frs w ⟨⟨⟨a,todo,rr,h1,⟨h2.size,fun j d hj=>?_⟩,KIs.le hle h3,bx.le hle h4,jE.le hle h5⟩⟩,Fms.le hle hr.cs,?_,Old.none_ hr.old,by cases cs<;>exact hr.bot⟩
 ·rcases H5 hj with ⟨rfl,rfl⟩|hj
  ·have:=h2.get _ _ hs;unfold D.rep F.rep at this;unfold D.rep;exact⟨none,0,0,Cf.cY,this⟩
  ·exact D.rep.le hle _ _ (h2.get _ _ hj)
 ·show Hp _ _ (lk ((nx,_) :: h)) w
  rw[bW];exact hp
theorem Sn.By(b t e sz:Nat){v:Nat}(hs:lk h b=some (.va v t [uo]))(hf:lk h nx=none)(H:Sn P X f0 r ⟨⟨f,N,s,ki,ds,ro⟩,cs,(b,.va v t [.own nx 0]) :: (nx,.ro 0 e sz []) :: h,nx+1⟩):Sn P X f0 r ⟨⟨f,N,s,ki,ds,ro⟩,cs,h,nx⟩:=by
 unfold Sn Snd at *;intro W cs0 hΓ c O fr frs w hr;obtain⟨hle,hp⟩:=Hp.none_ (e:=e) (sz:=sz) hr.hp hf;obtain⟨a,todo,rr,h1,h2,h3,h4,h5⟩:=hr.top.ex;have hb:b≠nx:=fun e=>by rw[e,hf] at hs;cases hs
 have hbx:up (lk h) nx (.ro 0 e sz []) b=some (.va v t [uo]):=by rw[aF (Ne.symm hb)];exact hs
 refine H W cs0 hΓ (c.add nx 0 (none,0,0)) (upO (upO O nx fun _=>False) b (upO O nx (fun _=>False) b)) fr frs w ⟨⟨⟨a,todo,rr,h1,h2.le hle,KIs.le hle h3,bx.le hle h4,jE.le hle h5⟩⟩,Fms.le hle hr.cs,?_,?_,hr.bot⟩
 ·show Hp _ _ (lk ((b,_) :: (nx,_) :: h)) w
  rw[bW,bW];refine hp.upd Chg.refl (fun g hg=>.inl hg) (Cf.le.refl _) rfl rfl (hp.cq hbx rfl) ?_;obtain⟨g,vs,k1,k2,k3,k4⟩:=hp.pc b _ hbx;refine⟨g,vs,k1,?_,k3,k4⟩;unfold D.ah at k2 ⊢;obtain⟨u,us,k5,k6,k7⟩:=k2;refine⟨u,us,k5,?_,?_⟩
  ·unfold D.rep F.rep at k6;unfold D.rep;exact⟨none,0,0,Cf.cY,k6⟩
  ·unfold D.ah at k7 ⊢;exact k7
 ·exact(Old.none_ hr.old).upd Chg.refl (fun g hg=>.inl hg) rfl rfl
theorem rW{e sz n c m:Nat}{A:Option Addr}{rows:List (List Value)}{S:Nat→Prop}{w:World}(hm:m≤n)(h:(own e sz A n c rows).on S w):(own e sz A m c (rows.take m)).on S w:=by
 obtain⟨⟨hl,hc⟩,h2,h3,h4⟩:=h;have hrs:∀r∈rows.take m,r.length=sz:=fun r hr=>h3 r (List.mem_of_mem_take hr)
 have hrl:(rows.take m).length=m:=by simp;omega
 refine⟨⟨?_,?_⟩,hrl,hrs,?_⟩
 ·rw[length_flatten hrs,hrl]
 ·rcases hc with ⟨hv,h0⟩|⟨g,cap,cur,hv,hg,hw,hr1,hr2,hr3,hr4⟩
  ·injection hv with hA hn hcc
   subst hA;subst hcc;have:m=0:=by omega
   subst this;exact .inl ⟨rfl,rfl⟩
  ·injection hv with hA hn hcc
   subst hA;subst hcc;refine .inr ⟨g,c,cur,rfl,hg,hw,by omega,hr2,hr3,?_⟩;have hle:m * sz≤n * sz:=Nat.mul_le_mul_right sz hm;rw[←qu rows m h3,←hr4,List.take_take,Nat.min_eq_left hle]
 ·intro g hg;refine h4 g ?_
  cases A with
  | none=>simp[Value.ownBlock] at hg
  | some a=>simpa [Value.ownBlock] using hg
theorem Hp.M5{c:Cf}{O:Nat→Nat→Prop}{η:Env}{w:World}{b u e sz hi:Nat}{rows:List (List F)}(h:Hp c O η w)(hb:η b=some (.ro u e sz rows))(hh:hi≤rows.length) :
  ∃A k,c.ι b u=some (A,rows.length,k)∧c.le (c.add b (u+1) (A,hi,k))∧Hp (c.add b (u+1) (A,hi,k)) (upO O b (O b)) (up η b (.ro (u+1) e sz (rows.take hi))) w∧∀W,Old W c O w→Old W (c.add b (u+1) (A,hi,k)) (upO O b (O b)) w:=by
 have hv:nv η b=u+1:=by unfold nv;rw[hb];rfl
 have hf:=h.fresh b;rw[hv] at hf;obtain⟨A,k,vr,k1,k2,k3,k4⟩:=h.pc b _ hb;refine⟨A,k,k1,Cf.eT hf,h.upd Chg.refl (fun g hg=>.inl hg) (Cf.eT hf) rfl rfl ?_ ⟨A,k,vr.take hi,?_,F.cT _ k2,fun r hr=>k3 r (List.mem_of_mem_take hr),?_⟩,fun W hO=>hO.upd Chg.refl (fun g hg=>.inl hg) rfl rfl⟩
 ·have:=h.cF (b:=b) (y:=(A,hi,k)) (x':=.ro (u+1) e sz (rows.take hi)) hv.symm;rw[hv] at this;exact this
 ·rw[Cf.cY,List.length_take,Nat.min_eq_left hh]
 ·rw[List.length_take,Nat.min_eq_left hh];exact rW hh k4
theorem rV{c:Cf}{b u sz hi k:Nat}{A:Option Addr}{m:Nat}{x:Value}(h1:c.ι b u=some (A,m,k))(hx:D.rep c (.sub b u sz 0 hi false) x):hi≤m∧x=.slice A hi k:=by
 unfold D.rep at hx;obtain⟨A',m',k',q1,q2,q3,q4,A2,q5,q6⟩:=hx;rw[h1] at q1
 cases q1;refine⟨q3,?_⟩;rw[q5,q6 (.inl rfl)];simp only[cond_false,Nat.sub_zero,Nat.zero_mul]
 congr 1
 cases A<;>simp[Addr.add]
theorem Sn.JP(b t e sz:Nat){v u b2 hi:Nat}{rows:List (List F)}(hs:lk h b=some (.va v t [.sub b2 u sz 0 hi false]))(hf:lk h b2=some (.ro u e sz rows))(H:Sn P X f0 r ⟨⟨f,N,s,ki,ds,ro⟩,cs,(b,.va v t [.own b2 (u+1)]) :: (b2,.ro (u+1) e sz (rows.take hi)) :: h,nx⟩):Sn P X f0 r ⟨⟨f,N,s,ki,ds,ro⟩,cs,h,nx⟩:=by
 unfold Sn Snd at *;intro W cs0 hΓ c O fr frs w hr;have hb:b≠b2:=fun e=>by rw[e,hf] at hs;cases hs
 obtain⟨A0,k0,vr0,k01,_⟩:=hr.hp.pc b2 _ hf;obtain⟨g0,vs0,k10,k20,k30,k40⟩:=hr.hp.pc b _ hs;have hhi:hi≤rows.length:=by
  unfold D.ah at k20;obtain⟨x,us,k5,k6,k7⟩:=k20;exact(rV k01 k6).1
 obtain⟨A,k,hι,hle,hp,hO⟩:=Hp.M5 (e:=e) (sz:=sz) hr.hp hf hhi;obtain⟨a,todo,rr,h1,h2,h3,h4,h5⟩:=hr.top.ex;have hbx:up (lk h) b2 (.ro (u+1) e sz (rows.take hi)) b=some (.va v t [.sub b2 u sz 0 hi false]):=by rw[aF (Ne.symm hb)];exact hs
 refine H W cs0 hΓ (c.add b2 (u+1) (A,hi,k)) (upO (upO O b2 (O b2)) b (upO O b2 (O b2) b)) fr frs w ⟨⟨⟨a,todo,rr,h1,h2.le hle,KIs.le hle h3,bx.le hle h4,jE.le hle h5⟩⟩,Fms.le hle hr.cs,?_,?_,by cases cs<;>exact hr.bot⟩
 ·show Hp _ _ (lk ((b,_) :: (b2,_) :: h)) w
  rw[bW,bW];refine hp.upd Chg.refl (fun g hg=>.inl hg) (Cf.le.refl _) rfl rfl (hp.cq hbx rfl) ?_;obtain⟨g,vs,k1,k2,k3,k4⟩:=hp.pc b _ hbx;refine⟨g,vs,k1,?_,k3,k4⟩;unfold D.ah at k2 ⊢;obtain⟨x,us,k5,k6,k7⟩:=k2;refine⟨x,us,k5,?_,?_⟩
  ·have:=(rV (hle.ι _ _ _ hι) k6).2;unfold D.rep;exact⟨A,hi,k,Cf.cY,this⟩
  ·unfold D.ah at k7 ⊢;exact k7
 ·exact(hO W hr.old).upd Chg.refl (fun g hg=>.inl hg) rfl rfl
theorem Sn.lC(j e sz:Nat){u b2 hi:Nat}{rows:List (List F)}(hs:lk s j=some (.sub b2 u sz 0 hi false))(hf:lk h b2=some (.ro u e sz rows))(H:Sn P X f0 r ⟨⟨f,N,(j,.own b2 (u+1)) :: s,ki,ds,ro⟩,cs,(b2,.ro (u+1) e sz (rows.take hi)) :: h,nx⟩):Sn P X f0 r ⟨⟨f,N,s,ki,ds,ro⟩,cs,h,nx⟩:=by
 unfold Sn Snd at *;intro W cs0 hΓ c O fr frs w hr;obtain⟨A0,k0,vr0,k01,_⟩:=hr.hp.pc b2 _ hf;obtain⟨a,todo,rr,h1,h2,h3,h4,h5⟩:=hr.top.ex;obtain⟨A,k,hι,hle,hp,hO⟩:=Hp.M5 (e:=e) (sz:=sz) hr.hp hf (rV k01 (h2.get _ _ hs)).1;refine H W cs0 hΓ (c.add b2 (u+1) (A,hi,k)) (upO O b2 (O b2)) fr frs w ⟨⟨⟨a,todo,rr,h1,⟨h2.size,fun i d hj=>?_⟩,KIs.le hle h3,bx.le hle h4,jE.le hle h5⟩⟩,Fms.le hle hr.cs,?_,hO W hr.old,by cases cs<;>exact hr.bot⟩
 ·rcases H5 hj with ⟨rfl,rfl⟩|hj
  ·have:=(rV hι (h2.get _ _ hs)).2;unfold D.rep;exact⟨A,hi,k,Cf.cY,this⟩
  ·exact D.rep.le hle _ _ (h2.get _ _ hj)
 ·show Hp _ _ (lk ((b2,_) :: h)) w
  rw[bW];exact hp
theorem Stp.JP(b t e sz:Nat){v u b2 hi:Nat}{rows rows':List (List F)}(hs:lk h b=some (.va v t [.sub b2 u sz 0 hi false]))(hf:lk h b2=some (.ro u e sz rows))(he:rows.take hi=rows')(H:Stp (Sn P X f0 r ⟨⟨f,N,s,ki,ds,ro⟩,cs,(b,.va v t [.own b2 (u+1)]) :: (b2,.ro (u+1) e sz rows') :: h,nx⟩)):Stp (Sn P X f0 r ⟨⟨f,N,s,ki,ds,ro⟩,cs,h,nx⟩):=⟨Sn.JP b t e sz hs hf (by rw[he];exact H.h)⟩
theorem Stp.lC(j e sz:Nat){u b2 hi:Nat}{rows rows':List (List F)}(hs:lk s j=some (.sub b2 u sz 0 hi false))(hf:lk h b2=some (.ro u e sz rows))(he:rows.take hi=rows')(H:Stp (Sn P X f0 r ⟨⟨f,N,(j,.own b2 (u+1)) :: s,ki,ds,ro⟩,cs,(b2,.ro (u+1) e sz rows') :: h,nx⟩)):Stp (Sn P X f0 r ⟨⟨f,N,s,ki,ds,ro⟩,cs,h,nx⟩):=⟨Sn.lC j e sz hs hf (by rw[he];exact H.h)⟩
theorem Sn.FU(hf:lk h nx=none)(H:Sn P X f0 r ⟨⟨f,N,s,ki,(nx,0) :: ds,ro⟩,cs,(nx,.df 0) :: h,nx+1⟩):Sn P X f0 r ⟨⟨f,N,s,ki,ds,ro⟩,cs,h,nx⟩:=by
 unfold Sn Snd at *;intro W cs0 hΓ c O fr frs w hr;have hv:nv (lk h) nx=0:=by unfold nv;rw[hf]
 have hfr:=hr.hp.fresh nx;rw[hv] at hfr;have hle:c.le (c.add nx 0 (none,0,1)):=Cf.eT hfr;obtain⟨a,todo,rr,h1,h2,h3,h4,h5⟩:=hr.top.ex;refine H W cs0 hΓ (c.add nx 0 (none,0,1)) (upO O nx fun _=>False) fr frs w ⟨⟨⟨a,todo,rr,h1,h2.le hle,KIs.le hle h3,⟨[],_,rfl,.inr Cf.cY,bx.le hle h4⟩,jE.le hle h5⟩⟩,Fms.le hle hr.cs,?_,hr.old.upd Chg.refl (fun g hg=>hg.elim) rfl rfl,by cases cs<;>exact hr.bot⟩;show Hp _ _ (lk ((nx,_) :: h)) w
 rw[bW];refine hr.hp.upd Chg.refl (fun g hg=>hg.elim) hle rfl rfl ?_ ⟨[],.inr Cf.cY,by simp,by simp⟩;have:=hr.hp.cF (b:=nx) (y:=(none,0,1)) (x':=.df 0) hv.symm;rw[hv] at this;exact this
theorem Sn.Gy{b1 v1 b2 v2:Nat}(hb:Nat.beq b1 b2=false)(hf1:lk h b1=some (.df v1))(hf2:lk h b2=some (.df v2))(H:Sn P X f0 r ⟨⟨f,N,s,ki,(b1,v1+1) :: ds,ro⟩,cs,(b2,.gone v2) :: (b1,.df (v1+1)) :: h,nx⟩):Sn P X f0 r ⟨⟨f,N,s,ki,(b1,v1) :: (b2,v2) :: ds,ro⟩,cs,h,nx⟩:=by
 unfold Sn Snd at *;intro W cs0 hΓ c O fr frs w hr;have hne:b1≠b2:=fun e=>by rw[e,Nat.beq_refl] at hb;cases hb
 have hv:nv (lk h) b1=v1+1:=by unfold nv;rw[hf1];rfl
 have hfr:=hr.hp.fresh b1;rw[hv] at hfr;obtain⟨a,todo,rr,h1,h2,h3,⟨gs1,l1,e1,m1,gs2,l2,e2,m2,h4⟩,h5⟩:=hr.top.ex;obtain⟨gs1',n1,n2,n3⟩:=hr.hp.pc b1 _ hf1;obtain⟨gs2',n4,n5,n6⟩:=hr.hp.pc b2 _ hf2;have:=m1.eq n1;subst this;have:=m2.eq n4;subst this;have hle:c.le (c.add b1 (v1+1) (none,enc (gs1++gs2),1)):=Cf.eT hfr;have hne':=Ne.symm hne;have hO:∀i,i≠b1→i≠b2→(fun g=>(i=b1∧(O b1 g∨O b2 g))∨(i≠b1∧i≠b2∧O i g))=O i:=fun i h1 h2=>funext fun g=>propext ⟨fun h=>h.elim (fun h=>absurd h.1 h1) (fun h=>h.2.2),fun h=>.inr ⟨h1,h2,h⟩⟩
 refine H W cs0 hΓ (c.add b1 (v1+1) (none,enc (gs1++gs2),1)) (fun i g=>(i=b1∧(O b1 g∨O b2 g))∨(i≠b1∧i≠b2∧O i g)) fr frs w ⟨⟨⟨a,todo,rr,h1,h2.le hle,KIs.le hle h3,⟨gs1++gs2,l2,by rw[e1,e2,List.map_append,List.append_assoc],.inr Cf.cY,bx.le hle h4⟩,jE.le hle h5⟩⟩,Fms.le hle hr.cs,?_,?_,by cases cs<;>exact hr.bot⟩
 ·show Hp _ _ (lk ((b2,_) :: (b1,_) :: h)) w
  rw[bW,bW];refine⟨fun i x hx=>?_,fun i v y hy=>?_,fun i j g hi hj=>?_,fun g hg=>?_,fun i g hi=>?_⟩
  ·by_cases k2:b2=i
   ·subst k2;rw[bj] at hx
    cases hx
    trivial
   ·rw[aF k2] at hx
    by_cases k1:b1=i
    ·subst k1;rw[bj] at hx
     cases hx;refine⟨gs1++gs2,.inr Cf.cY,List.nodup_append.2 ⟨n2,n5,fun x hx y hy e=>?_⟩,fun g hg=>?_⟩
     ·subst e;exact hne (hr.hp.apart _ _ _ (n3 x hx).1 (n6 x hy).1)
     ·rcases List.mem_append.1 hg with hg|hg
      ·exact⟨.inl ⟨rfl,.inl (n3 g hg).1⟩,(n3 g hg).2⟩
      ·exact⟨.inl ⟨rfl,.inr (n6 g hg).1⟩,(n6 g hg).2⟩
    ·rw[aF k1] at hx;show B.on _ i (fun g=>(i=b1∧(O b1 g∨O b2 g))∨(i≠b1∧i≠b2∧O i g)) w x
     rw[hO i (Ne.symm k1) (Ne.symm k2)];exact(hr.hp.pc i x hx).le hle fun _ _=>rfl
  ·have hbd:=hr.hp.cF (b:=b1) (y:=(none,enc (gs1++gs2),1)) (x':=.df (v1+1)) hv.symm;rw[hv] at hbd;obtain⟨x,hx,hle⟩:=hbd i v y hy
   by_cases k2:b2=i
   ·subst k2;rw[aF hne,hf2] at hx
    cases hx;exact⟨_,bj,hle⟩
   ·exact⟨x,by rw[aF k2];exact hx,hle⟩
  ·rcases hi with ⟨rfl,hi⟩|⟨q1,q2,hi⟩<;>rcases hj with ⟨rfl,hj⟩|⟨q3,q4,hj⟩
   ·rfl
   ·rcases hi with hi|hi
    ·exact absurd (hr.hp.apart _ _ _ hj hi) q3
    ·exact absurd (hr.hp.apart _ _ _ hj hi) q4
   ·rcases hj with hj|hj
    ·exact absurd (hr.hp.apart _ _ _ hi hj) q1
    ·exact absurd (hr.hp.apart _ _ _ hi hj) q2
   ·exact hr.hp.apart _ _ _ hi hj
  ·obtain⟨k1,k2,k3⟩:=hr.hp.fz g hg;refine⟨k1,k2,fun i hi=>?_⟩;rcases hi with ⟨_,hi|hi⟩|⟨_,_,hi⟩
   ·exact k3 _ hi
   ·exact k3 _ hi
   ·exact k3 _ hi
  ·rcases hi with ⟨_,hi|hi⟩|⟨_,_,hi⟩
   ·exact hr.hp.lt _ _ hi
   ·exact hr.hp.lt _ _ hi
   ·exact hr.hp.lt _ _ hi
 ·have ho:=hr.old;refine⟨ho.os,ho.tape,ho.output,ho.size,ho.b4,fun i g hi=>?_,ho.mW,ho.le⟩;rcases hi with ⟨_,hi|hi⟩|⟨_,_,hi⟩
  ·exact ho.own _ _ hi
  ·exact ho.own _ _ hi
  ·exact ho.own _ _ hi
theorem Stp.FU(hf:lk h nx=none)(H:Stp (Sn P X f0 r ⟨⟨f,N,s,ki,(nx,0) :: ds,ro⟩,cs,(nx,.df 0) :: h,nx+1⟩)):Stp (Sn P X f0 r ⟨⟨f,N,s,ki,ds,ro⟩,cs,h,nx⟩):=⟨Sn.FU hf H.h⟩
theorem Stp.Gy{b1 v1 b2 v2:Nat}(hb:Nat.beq b1 b2=false)(hf1:lk h b1=some (.df v1))(hf2:lk h b2=some (.df v2))(H:Stp (Sn P X f0 r ⟨⟨f,N,s,ki,(b1,v1+1) :: ds,ro⟩,cs,(b2,.gone v2) :: (b1,.df (v1+1)) :: h,nx⟩)):Stp (Sn P X f0 r ⟨⟨f,N,s,ki,(b1,v1) :: (b2,v2) :: ds,ro⟩,cs,h,nx⟩):=⟨Sn.Gy hb hf1 hf2 H.h⟩
theorem Stp.ng(k e sz:Nat)(hs:lk s k=some uo)(hf:lk h nx=none)(H:Stp (Sn P X f0 r ⟨⟨f,N,(k,.own nx 0) :: s,ki,ds,ro⟩,cs,(nx,.ro 0 e sz []) :: h,nx+1⟩)):Stp (Sn P X f0 r ⟨⟨f,N,s,ki,ds,ro⟩,cs,h,nx⟩):=⟨Sn.ng k e sz hs hf H.h⟩
theorem Stp.By(b t e sz:Nat){v:Nat}(hs:lk h b=some (.va v t [uo]))(hf:lk h nx=none)(H:Stp (Sn P X f0 r ⟨⟨f,N,s,ki,ds,ro⟩,cs,(b,.va v t [.own nx 0]) :: (nx,.ro 0 e sz []) :: h,nx+1⟩)):Stp (Sn P X f0 r ⟨⟨f,N,s,ki,ds,ro⟩,cs,h,nx⟩):=⟨Sn.By b t e sz hs hf H.h⟩
end
theorem cQ.n{x y:Int}{h h':List (Nat×B)}(e:x=y)(hh:h=h'):cQ (.fr (.vl (.int .i64 x))) h ⟨(F.vl (.int .i64 y)).toD,h'⟩:=⟨by rw[e];rfl,hh⟩
theorem cQ.i{d d':D}{h h':List (Nat×B)}(e:d=d')(hh:h=h'):cQ d h ⟨d',h'⟩:=⟨e,hh⟩
end Go.Km
end
section
namespace Go.Km
open Go Go.Vc Go.Proofs Go.Proofs.YtoklkjkmbfebjaaGreatDoor
def inl:List Nat:=[
 76,
 135,
 79,
 156,
 85,
 86,
 1000000]
def ars:List Nat:=[
 133,
 114,
 134,
 115,
 116,
 117,
 101,
 138,
 141,
 131,
 132,
 149,
 80,
 1000000]
noncomputable def X1:Tx where
 E:=tyE
 Γ:=Vc.lk Kx
 fi:=Vc.lk fiL
 pu:=fun f=>!inl.elem f
 Q:=fun _=>false
 bd:=fun _=>0
 bt:=fun _=>0
 u8:=0
 hp:=fun f=>ars.elem f
set_option maxRecDepth 100000 in
theorem dZ:j5 Tryz.prog X1 where
 E:=Bj
 fi:=Iu
 mixed:=by kernel_rfl
 deep:=by
  have:Nat.ble 2 Tryz.prog.depth=true:=by kernel_rfl
  exact Nat.le_of_ble_eq_true this
 Q:=fun _ h=>by cases h
 bd:=fun _ _ h=>by cases h
def xh(ops:Array Oper):Nat→Nat→Nat→Bool
 | 0,_,_=>false
 | f+1,i,k=>match ops[i]? with
  | some o=>(o.after.any fun e=>Region.binds .any e&&Nat.beq e.on k)||(o.after.any fun e=>Region.binds .any e&&(Nat.blt k e.on&&xh ops f e.on k))
  | none=>false
theorem xP(ops:Array Oper):∀(f i k:Nat),xh ops f i k=true→Sl.ct ops f i k=true
 | 0,i,k,h=>by cases h
 | f+1,i,k,h=>by
  unfold xh at h;unfold Sl.ct
  split at h
  ·rename_i o ho;rw[ho];dsimp only;rw[Bool.or_eq_true,←Array.any_toList,←Array.any_toList,List.any_eq_true,List.any_eq_true] at h;rw[←Array.any_toList,List.any_eq_true];rcases h with ⟨e,he,h1⟩|⟨e,he,h1⟩
   ·rw[Bool.and_eq_true] at h1;exact⟨e,he,by rw[h1.1,h1.2];rfl⟩
   ·rw[Bool.and_eq_true,Bool.and_eq_true] at h1;exact⟨e,he,by rw[h1.1,xP ops f e.on k h1.2.2];simp⟩
  ·cases h
def MI(ops:Array Oper)(acs:List Ac):Bool:=
 Region.noSelect ops&&(List.range ops.size).all fun i=>
  (match ops[i]? with|some o=>o.after.all fun e=>!Region.binds .any e||Nat.blt e.on i|none=>true) &&
  (List.range i).all fun k=>vL ops acs k i||xh ops 6 i k
theorem wx{ops:Array Oper}{acs:List Ac}(h:MI ops acs=true):okD ops acs=true:=by
 unfold MI at h;unfold okD;rw[Bool.and_eq_true,List.all_eq_true] at h ⊢;refine⟨h.1,fun i hi=>?_⟩;have h1:=h.2 i hi;rw[Bool.and_eq_true] at h1 ⊢;refine⟨h1.1,?_⟩;rw[List.all_eq_true];intro k hk;have h2:=List.all_eq_true.1 h1.2 k hk;rw[Bool.or_eq_true] at h2 ⊢;rcases h2 with h2|h2
 ·exact .inr h2
 ·exact .inl (xP ops 6 i k h2)
structure KB(p q:Prop):Prop where
 h:p
 k:q
structure KH(c p:Prop):Prop where
 h:c→p
structure KL(c:Prop)(p:c→Prop):Prop where
 h:∀h,p h
theorem kA{p q:Prop}(h:p)(k:q):KB p q:=⟨h,k⟩
theorem kI{c p:Prop}(h:c→p):KH c p:=⟨h⟩
theorem kL{c:Prop}{p:c→Prop}(h:∀h,p h):KL c p:=⟨h⟩
theorem KB.br{c d p q:Prop}(h:KB (Br c p) (Br d q)):BrA c d p q:=⟨h.h.h,h.k.h⟩
structure Nq(c d:Prop):Prop where
 h:c→d
theorem Nq.i{c d:Prop}(e:c=d:=by first|(simp only[List.length_map,List.length_append,List.length_take,List.length_drop,List.length_replicate,List.length_set,jG];rfl)|rfl):Nq c d:=⟨fun h=>e▸h⟩
theorem KH.br{c d p:Prop}(e:Nq c d)(h:KH d p):Br c p:=⟨fun x=>h.h (e.h x)⟩
theorem KL.ex{p:Prop}{k:p→Prop}(h:Nd p)(hk:KL p k):ExS p k:=⟨h.h,hk.h h.h⟩
theorem k9{p:Prop}(h:p:=by first|(apply Br.no;exact No.i)|with_reducible exact ao.r|((with_reducible apply ao.t);rfl)):p:=h
theorem k1 {p q:Prop} (k:q) (f:Sl.AB q→p:=by
 intro h
 (try (conv=>whnf))
 first
  | (with_reducible apply Arm.h)
  | (apply SdA.m;exact Nd.i)
  | (apply OrA.l;exact Nd.i)
  | apply OrA.r
  | (apply OkA.i;apply wx;kernel_rfl)
  | (with_reducible apply KB.br)
  | (apply KH.br;exact Nq.i;(conv=>arg 2;whnf))
  | (apply KL.ex;exact Nd.i;(conv=>arg 2;intro _;whnf))
  | (apply ExK.m;exact Kn.i)
 repeat
  (conv=>whnf)
  first
   | (with_reducible apply Arm.h)
   | (apply SdA.m;exact Nd.i)
   | (apply OrA.l;exact Nd.i)
   | apply OrA.r
   | (apply OkA.i;apply wx;kernel_rfl)
   | (with_reducible apply KB.br)
   | (apply KH.br;exact Nq.i;(conv=>arg 2;whnf))
   | (apply KL.ex;exact Nd.i;(conv=>arg 2;intro _;whnf))
   | (apply ExK.m;exact Kn.i)
 (try (conv=>whnf))
 exact h.go):p:=f ⟨k⟩
theorem k5 {p q:Prop} (k:q) (f:Sl.AB q→p:=by
 intro h
 first
  | (apply FoA.m;exact Kn.i)
  | apply FoA.o
  | apply Sn.go dZ
  | (with_reducible show zT _ _)
 (conv=>whnf)
 exact h.go):p:=f ⟨k⟩
theorem k2 {p q:Prop} (k:q) (f:Sl.AB q→p:=by
 intro h
 first
  | (
   (try (conv=>whnf))
   first
    | (with_reducible apply Arm.h)
    | (apply SdA.m;exact Nd.i)
    | (apply OrA.l;exact Nd.i)
    | apply OrA.r
    | (apply OkA.i;apply wx;kernel_rfl)
    | (with_reducible apply KB.br)
    | (apply KH.br;exact Nq.i;(conv=>arg 2;whnf))
    | (apply KL.ex;exact Nd.i;(conv=>arg 2;intro _;whnf))
    | (apply ExK.m;exact Kn.i)
    | (apply FoA.m;exact Kn.i)
    | apply FoA.o
    | apply Sn.go dZ
   )
  | ((with_reducible show zT _ _);(conv=>whnf))
 repeat
  (conv=>whnf)
  first
   | (with_reducible apply Arm.h)
   | (apply SdA.m;exact Nd.i)
   | (apply OrA.l;exact Nd.i)
   | apply OrA.r
   | (apply OkA.i;apply wx;kernel_rfl)
   | (with_reducible apply KB.br)
   | (apply KH.br;exact Nq.i;(conv=>arg 2;whnf))
   | (apply KL.ex;exact Nd.i;(conv=>arg 2;intro _;whnf))
   | (apply ExK.m;exact Kn.i)
   | (apply FoA.m;exact Kn.i)
   | apply FoA.o
   | apply Sn.go dZ
 (try (conv=>whnf))
 exact h.go):p:=f ⟨k⟩
theorem KB.sd{p q:Prop}(h:KB (Nd p) q):SdA p q:=⟨h.h.h,h.k⟩
theorem KB.ex{p:Prop}{k:p→Prop}(h:KB (Nd p) (KL p k)):ExS p k:=⟨h.h.h,h.k.h h.h.h⟩
theorem k8 {p q:Prop} (k:q) (f:Sl.AB q→p:=by
 intro h
 first
  | (apply KB.sd;(conv=>arg 2;whnf);exact h.go)
  | (apply KB.ex;(conv=>arg 2;arg 2;intro _;whnf);exact h.go)):p:=f ⟨k⟩
theorem kf{f:FuncId}{fi:Fi}{l:List F}{r:F}{b:Bool}(hf:X1.fi f=some fi)(hN:Nat.ble l.length fi.N=true)(h:zT (tu f fi (l.map F.toD)) (g24 Tryz.prog X1 f (r,b))):Pure Tryz.prog X1.Γ f l r b:=iL dZ hf hN h
end Go.Km
end
