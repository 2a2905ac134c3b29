/- The texts that the card needs, part 6. -/
import Derived.Test.YthebhpcjcihjgaaGreatDoorP4
set_option linter.all false
section
namespace Go.Km
open Go Go.Vc Go.Proofs Go.Proofs.YthebhpcjcihjgaaGreatDoor
def inl:List Nat:=[
 105,
 174,
 62,
 204,
 116,
 117,
 1000000]
def ars:List Nat:=[
 172,
 152,
 173,
 153,
 154,
 155,
 138,
 158,
 176,
 148,
 149,
 196,
 1000000]
noncomputable def X1:Tx where
 E:=tyE
 Γ:=Vc.lk Kq
 fi:=Vc.lk fiL
 pu:=fun f=>!inl.elem f
 Q:=fun _=>false
 bd:=fun _=>0
 bt:=fun _=>0
 u8:=0
 hp:=fun f=>ars.elem f
set_option maxRecDepth 100000 in
theorem fH:mA Tryz.prog X1 where
 E:=AR
 fi:=Hd
 mixed:=by kernel_rfl
 deep:=by
  have:Nat.ble 2 Tryz.prog.depth=true:=by kernel_rfl
  exact On this
 Q:=fun _ h=>by cases h
 bd:=fun _ _ h=>by cases h
def wV(ops:Array Oper):Nat→Nat→Nat→Bool
 | 0,_,_=>false
 | f+1,i,k=>match ops[i]? with
  | some o=>(o.after.any fun e=>Region.binds .any e&&Nat.beq e.on k)||(o.after.any fun e=>Region.binds .any e&&(Nat.blt k e.on&&wV ops f e.on k))
  | none=>false
theorem zk(ops:Array Oper):∀(f i k:Nat),wV ops f i k=true→Sl.eb ops f i k=true
 | 0,i,k,h=>by cases h
 | f+1,i,k,h=>by
  unfold wV at h;unfold Sl.eb
  split at h
  ·rename_i o ho;rw[ho];dsimp only;rw[Pp,←Array.any_toList,←Array.any_toList,Po,Po] at h;rw[←Array.any_toList,Po];rcases h with ⟨e,he,h1⟩|⟨e,he,h1⟩
   ·rw[Oi] at h1;exact⟨e,he,by rw[h1.1,h1.2];rfl⟩
   ·rw[Oi,Oi] at h1;exact⟨e,he,by rw[h1.1,zk ops f e.on k h1.2.2];simp⟩
  ·cases h
def Mp(ops:Array Oper)(acs:List Ac):Bool:=
 Region.noSelect ops&&(List.range ops.size).all fun i=>
  (match ops[i]? with|some o=>o.after.all fun e=>!Region.binds .any e||Nat.blt e.on i|none=>true) &&
  (List.range i).all fun k=>wJ ops acs k i||wV ops 6 i k
theorem xi{ops:Array Oper}{acs:List Ac}(h:Mp ops acs=true):okD ops acs=true:=by
 unfold Mp at h;unfold okD;rw[Oi,OF] at h ⊢;refine⟨h.1,fun i hi=>?_⟩;have h1:=h.2 i hi;rw[Oi] at h1 ⊢;refine⟨h1.1,?_⟩;rw[OF];intro k hk;have h2:=OF.1 h1.2 k hk;rw[Pp] at h2 ⊢;rcases h2 with h2|h2
 ·exact .inr h2
 ·exact .inl (zk ops 6 i k h2)
structure KB(p q:Prop):Prop where
 h:p
 k:q
structure KH(c p:Prop):Prop where
 h:c→p
structure KL(c:Prop)(p:c→Prop):Prop where
 h:∀h,p h
theorem kA{p q:Prop}(h:p)(k:q):KB p q:=⟨h,k⟩
theorem kI{c p:Prop}(h:c→p):KH c p:=⟨h⟩
theorem kL{c:Prop}{p:c→Prop}(h:∀h,p h):KL c p:=⟨h⟩
theorem KB.br{c d p q:Prop}(h:KB (Br c p) (Br d q)):BrA c d p q:=⟨h.h.h,h.k.h⟩
structure Nq(c d:Prop):Prop where
 h:c→d
theorem Nq.i{c d:Prop}(e:c=d:=by first|(simp only[Ok,Oh,Ou,OX,Px,Qt,jV];rfl)|rfl):Nq c d:=⟨fun h=>e▸h⟩
theorem KH.br{c d p:Prop}(e:Nq c d)(h:KH d p):Br c p:=⟨fun x=>h.h (e.h x)⟩
theorem KL.ex{p:Prop}{k:p→Prop}(h:Nd p)(hk:KL p k):ExS p k:=⟨h.h,hk.h h.h⟩
theorem k9{p:Prop}(h:p:=by first|(apply Br.no;exact No.i)|with_reducible exact aa.r|((with_reducible apply aa.t);rfl)):p:=h
theorem k1 {p q:Prop} (k:q) (f:Sl.GM q→p:=by
 intro h
 (try (conv=>whnf))
 first
  | (with_reducible apply Arm.h)
  | (apply SdA.m;exact Nd.i)
  | (apply OrA.l;exact Nd.i)
  | apply OrA.r
  | (apply OkA.i;apply xi;kernel_rfl)
  | (with_reducible apply KB.br)
  | (apply KH.br;exact Nq.i;(conv=>arg 2;whnf))
  | (apply KL.ex;exact Nd.i;(conv=>arg 2;intro _;whnf))
  | (apply ExK.m;exact Kn.i)
 repeat
  (conv=>whnf)
  first
   | (with_reducible apply Arm.h)
   | (apply SdA.m;exact Nd.i)
   | (apply OrA.l;exact Nd.i)
   | apply OrA.r
   | (apply OkA.i;apply xi;kernel_rfl)
   | (with_reducible apply KB.br)
   | (apply KH.br;exact Nq.i;(conv=>arg 2;whnf))
   | (apply KL.ex;exact Nd.i;(conv=>arg 2;intro _;whnf))
   | (apply ExK.m;exact Kn.i)
 (try (conv=>whnf))
 exact h.go):p:=f ⟨k⟩
theorem k5 {p q:Prop} (k:q) (f:Sl.GM q→p:=by
 intro h
 first
  | (apply FoA.m;exact Kn.i)
  | apply FoA.o
  | apply Sn.go fH
  | (with_reducible show zc _ _)
 (conv=>whnf)
 exact h.go):p:=f ⟨k⟩
theorem k2 {p q:Prop} (k:q) (f:Sl.GM q→p:=by
 intro h
 first
  | (
   (try (conv=>whnf))
   first
    | (with_reducible apply Arm.h)
    | (apply SdA.m;exact Nd.i)
    | (apply OrA.l;exact Nd.i)
    | apply OrA.r
    | (apply OkA.i;apply xi;kernel_rfl)
    | (with_reducible apply KB.br)
    | (apply KH.br;exact Nq.i;(conv=>arg 2;whnf))
    | (apply KL.ex;exact Nd.i;(conv=>arg 2;intro _;whnf))
    | (apply ExK.m;exact Kn.i)
    | (apply FoA.m;exact Kn.i)
    | apply FoA.o
    | apply Sn.go fH
   )
  | ((with_reducible show zc _ _);(conv=>whnf))
 repeat
  (conv=>whnf)
  first
   | (with_reducible apply Arm.h)
   | (apply SdA.m;exact Nd.i)
   | (apply OrA.l;exact Nd.i)
   | apply OrA.r
   | (apply OkA.i;apply xi;kernel_rfl)
   | (with_reducible apply KB.br)
   | (apply KH.br;exact Nq.i;(conv=>arg 2;whnf))
   | (apply KL.ex;exact Nd.i;(conv=>arg 2;intro _;whnf))
   | (apply ExK.m;exact Kn.i)
   | (apply FoA.m;exact Kn.i)
   | apply FoA.o
   | apply Sn.go fH
 (try (conv=>whnf))
 exact h.go):p:=f ⟨k⟩
theorem KB.sd{p q:Prop}(h:KB (Nd p) q):SdA p q:=⟨h.h.h,h.k⟩
theorem KB.ex{p:Prop}{k:p→Prop}(h:KB (Nd p) (KL p k)):ExS p k:=⟨h.h.h,h.k.h h.h.h⟩
theorem k8 {p q:Prop} (k:q) (f:Sl.GM q→p:=by
 intro h
 first
  | (apply KB.sd;(conv=>arg 2;whnf);exact h.go)
  | (apply KB.ex;(conv=>arg 2;arg 2;intro _;whnf);exact h.go)):p:=f ⟨k⟩
theorem kf{f:FuncId}{fi:Fi}{l:List F}{r:F}{b:Bool}(hf:X1.fi f=some fi)(hN:Nat.ble l.length fi.N=true)(h:zc (xq f fi (l.map F.toD)) (g24 Tryz.prog X1 f (r,b))):Pure Tryz.prog X1.Γ f l r b:=fK fH hf hN h
end Go.Km
end
section
namespace Go.ab
open Go Go.Sl
def ub(b:Int):Bool:=decide (48≤b)&&decide (b≤57)
def jK(b:Int):Bool:=(decide (97≤b)&&decide (b≤122))||(decide (65≤b)&&decide (b≤90))||decide (b=95)
def gp(b:UInt8):Bool:=jK b.toNat||ub b.toNat
def runN(l:List UInt8):Nat:=(l.takeWhile gp).length
def mq:List UInt8→Bool
 | []=>false
 | b :: _=>jK b.toNat
def ij(s:ByteArray):ByteArray:=if mq s.data.toList then s.extract 0 (runN s.data.toList) else ⟨#[]⟩
def gj(s:ByteArray):Bool:=decide (s.size≤32)&&mq s.data.toList&&s.data.toList.all gp
theorem Iz(l:List UInt8):runN l≤l.length:=by
 unfold runN;exact List.Sublist.length_le (List.takeWhile_sublist _)
theorem vN:∀(l:List UInt8) (k:Nat),k≤l.length→(∀j b,j<k→l[j]?=some b→gp b=true)→(∀b,l[k]?=some b→gp b=false)→k=runN l
 | [],k,hk,_,_=>by simp at hk;subst hk;rfl
 | c :: l,0,_,_,h2=>by
  have:=h2 c (by simp);simp[runN,List.takeWhile,this]
 | c :: l,k+1,hk,h1,h2=>by
  have hc:=h1 0 c (by omega) (by simp);have ih:=vN l k (by simpa using hk) (fun j b hj hb=>h1 (j+1) b (by omega) (by simpa using hb)) (fun b hb=>h2 b (by simpa using hb));simp only[runN,List.takeWhile_cons,hc,if_true,Og];simp only[runN] at ih;omega
theorem H3(l:List UInt8):(runN l=l.length)↔l.all gp=true:=by
 induction l with
 | nil=>simp[runN]
 | cons c l ih=>
  unfold runN at *;rw[List.takeWhile_cons]
  by_cases hc:gp c=true
  ·simp[hc];simpa using ih
  ·simp[hc]
theorem sS(s:ByteArray):(ij s).size=if mq s.data.toList then runN s.data.toList else 0:=by
 unfold ij;have:=Iz s.data.toList;have hs:s.data.toList.length=s.size:=Array.length_toList
 split
 ·rw[ByteArray.size_extract];omega
 ·rfl
theorem Ck(s:ByteArray)(h:(ij s).size=s.size)(hs:s≠⟨#[]⟩):ij s=s:=by
 rw[sS] at h;have hs':s.data.toList.length=s.size:=Array.length_toList;unfold ij
 split at h
 ·rename_i hh;rw[if_pos hh,h];apply Qb;simp
 ·exact absurd (Qb (P6 h.symm)) hs
theorem Co(s:ByteArray):gj s=(!decide (s=⟨#[]⟩)&&decide (s.size≤32)&&decide ((ij s).size=s.size)):=by
 unfold gj;have hs:s.data.toList.length=s.size:=Array.length_toList;rw[sS]
 by_cases he:s=⟨#[]⟩
 ·subst he;simp[mq]
 ·have hne:s.size≠0:=fun h=>he (Qb (P6 h))
  cases hh:mq s.data.toList with
  | false=>
   have:¬(0=s.size):=by omega
   simp[he,this]
  | true=>
   have:=H3 s.data.toList;rw[hs] at this
   by_cases hb:s.data.toList.all gp=true
   ·simp only[this.2 hb,hb,he];simp
   ·have h2:¬(runN s.data.toList=s.size):=fun h=>hb (this.1 h)
    have hb':s.data.toList.all gp=false:=by simpa using hb
    rw[hb'];simp[h2]
theorem sW(s:ByteArray):gj s=(!decide (s=⟨#[]⟩)&&decide (s.size≤32)&&decide (ij s=s)):=by
 rw[Co]
 by_cases he:s=⟨#[]⟩
 ·simp[he]
 ·congr 1
  rw[decide_eq_decide];exact⟨fun h=>Ck s h he,fun h=>by rw[h]⟩
theorem y8(s:ByteArray):gj s=(!decide (s=⟨#[]⟩)&&decide ((s.size:Int)≤32)&&decide (((ij s).size:Int)=(s.size:Int))):=by
 rw[Co]
 congr 1
 ·congr 1
  rw[decide_eq_decide];omega
 ·rw[decide_eq_decide];omega
theorem Eu(s:ByteArray):gj s=(!decide (s=⟨#[]⟩)&&decide ((s.size:Int)≤32)&&decide (ij s=s)):=by
 rw[sW]
 congr 2
 rw[decide_eq_decide];omega
structure Bts where
 a:Int
 b:Int
 c:Int
 d:Int
deriving DecidableEq
structure Nod where
 kind:Int
 set:Bts
 text:ByteArray
 min:Int
 max:Int
 kids:List Int
deriving DecidableEq
structure Tre where
 nodes:List Nod
 root:Int
deriving DecidableEq
def Bts.zero:Bts:=⟨0,0,0,0⟩
def Nod.zero:Nod:=⟨0,.zero,⟨#[]⟩,0,0,[]⟩
def Tre.zero:Tre:=⟨[],0⟩
def fits(n:Nod)(kids:Int):Bool:=
 if n.kind=0 then decide (n.set=.zero)&&decide (n.text=⟨#[]⟩)&&decide (n.min=0)&&decide (n.max=0)&&decide (kids=0)
 else if n.kind=1 then decide (n.text=⟨#[]⟩)&&decide (n.min=0)&&decide (n.max=0)&&decide (kids=0)
 else if n.kind=2 then decide (n.set=.zero)&&decide (n.min=0)&&decide (n.max=0)&&decide (kids=0) && !decide (n.text=⟨#[]⟩)&&decide ((n.text.size:Int)≤255)
 else if n.kind=3 then decide (n.set=.zero)&&decide (n.min=0)&&decide (n.max=0)&&decide (kids=0)&&gj n.text
 else if n.kind=4∨n.kind=5 then decide (n.set=.zero)&&decide (n.text=⟨#[]⟩)&&decide (n.min=0)&&decide (n.max=0)&&decide (2≤kids)
 else if n.kind=6 then decide (n.set=.zero)&&decide (n.text=⟨#[]⟩)&&decide (kids=1)&&decide (0≤n.min)&&decide (n.min≤99)&&(decide (n.max=-1)||decide (n.min≤n.max)&&decide (n.max≤99))
 else if n.kind=7∨n.kind=8 then decide (n.set=.zero)&&decide (n.text=⟨#[]⟩)&&decide (n.min=0)&&decide (n.max=0)&&decide (kids=1)
 else if n.kind=9 then decide (n.set=.zero)&&decide (n.min=0)&&decide (n.max=0)&&decide (kids=1)&&gj n.text
 else false
def aB(l:List Nod):List Int:=l.flatMap (·.kids)
def cv(i:Int):List Int→List Bool→Option (List Bool)
 | [],tk=>some tk
 | k :: l,tk=>if k<0∨i≤k∨tk.getD k.toNat false=true then none else cv i l (tk.set k.toNat true)
def cO:Nat→List Nod→List Bool→Option (List Bool)
 | _,[],tk=>some tk
 | i,n :: l,tk=>if fits n n.kids.length=true then (cv i n.kids tk).bind (cO (i+1) l) else none
def ao(t:Tre):Bool:=
 decide (0≤t.root)&&decide (t.root<t.nodes.length)&&match cO 0 t.nodes (List.replicate t.nodes.length false) with
  | none=>false
  | some tk=>(List.range t.nodes.length).all fun i=>!(tk.getD i false==decide ((i:Int)=t.root))
theorem lC(i:Int):∀(l:List Int) (tk tk':List Bool),cv i l tk=some tk'→tk'.length=tk.length
 | [],tk,tk',h=>by simp[cv] at h;rw[h]
 | k :: l,tk,tk',h=>by
  unfold cv at h
  split at h
  ·cases h
  ·have:=lC i l _ _ h;simpa using this
def oe(ns:List Nod)(k:Int):List Int:=match ns[k.toNat]? with
 | some n=>n.kids
 | none=>[]
def cb(ch:Int→List Int):Prop:=∀k,∀x∈ch k,0≤x∧x<k
def dfs(ch:Int→List Int):Nat→List Int→List Int
 | 0,_=>[]
 | f+1,l=>l.flatMap fun k=>k :: dfs ch f (ch k)
def jU(ch:Int→List Int):Nat→List Int→List Int
 | 0,_=>[]
 | f+1,l=>l.flatMap fun k=>jU ch f (ch k)++[k]
def fw(ch:Int→List Int)(k:Int):List Int:=(ch k).reverse
theorem bT(ch:Int→List Int)(f:Nat):dfs ch f []=[]:=by cases f<;>rfl
theorem z5(ch:Int→List Int)(f:Nat):jU ch f []=[]:=by cases f<;>rfl
theorem bD(ch:Int→List Int)(f:Nat)(l m:List Int):dfs ch f (l++m)=dfs ch f l++dfs ch f m:=by cases f<;>simp[dfs]
theorem cb.rev{ch:Int→List Int}(h:cb ch):cb (fw ch):=fun k x hx=>h k x (by simpa [fw] using hx)
theorem pq{ch:Int→List Int}(h:cb ch):∀(f g:Nat) (l:List Int),(∀k∈l,0≤k∧k<f)→(∀k∈l,k<g)→dfs ch f l=dfs ch g l
 | 0,g,l,hf,hg=>by
  cases l with
  | nil=>rw[bT,bT]
  | cons k l=>have:=hf k (by simp);omega
 | f+1,0,l,hf,hg=>by
  cases l with
  | nil=>rw[bT,bT]
  | cons k l=>
   have:=hf k (by simp);have:=hg k (by simp);omega
 | f+1,g+1,l,hf,hg=>by
  show l.flatMap _=l.flatMap _
  rw[PN,PN]
  congr 1
  apply Pk;intro k hk;have h1:=hf k hk;have h2:=hg k hk;rw[pq h f g (ch k) (fun x hx=>⟨(h k x hx).1,by have:=(h k x hx).2;omega⟩) (fun x hx=>by have:=(h k x hx).2;omega)]
theorem aS{ch:Int→List Int}(h:cb ch){f:Nat}{k:Int}{l:List Int}(h0:0≤k)(hk:k<f):dfs ch f (k :: l)=k :: (dfs ch f (ch k)++dfs ch f l):=by
 cases f with
 | zero=>omega
 | succ f=>
  have e:dfs ch f (ch k)=dfs ch (f+1) (ch k):=pq h f (f+1) (ch k) (fun x hx=>⟨(h k x hx).1,by have:=(h k x hx).2;omega⟩) (fun x hx=>by have:=(h k x hx).2;omega);rw[←e];simp[dfs]
theorem oV(ch:Int→List Int):∀(f:Nat) (l:List Int),(dfs (fw ch) f l.reverse).reverse=jU ch f l
 | 0,l=>rfl
 | f+1,l=>by
  induction l with
  | nil=>rfl
  | cons k l ih=>
   rw[List.reverse_cons,bD,OW,ih];have h1:=oV ch f (ch k);simp only[dfs,jU,OR,Rh,Oj,List.reverse_cons];rw[show fw ch k=(ch k).reverse from rfl,h1]
theorem dA{ch:Int→List Int}(f:Nat)(l:List Int)(hf:0<f):l.length≤(dfs ch f l).length:=by
 cases f with
 | zero=>omega
 | succ f=>
  induction l with
  | nil=>simp
  | cons k l ih=>
   simp only[dfs,OR,Oh,Og] at ih ⊢;omega
theorem fJ{ch:Int→List Int}:∀(f:Nat) (l:List Int),(dfs (fw ch) f l).length=(dfs ch f l).length
 | 0,l=>rfl
 | f+1,l=>by
  induction l with
  | nil=>rfl
  | cons k l ih=>
   simp only[dfs,OR,Oh,Og] at ih ⊢;have h1:=fJ (ch:=ch) f (fw ch k);have h2:∀(f:Nat) (m:List Int),(dfs ch f m.reverse).length=(dfs ch f m).length:=by
    intro f m
    induction m with
    | nil=>rfl
    | cons x m ihm=>rw[List.reverse_cons,bD,Oh,ihm,show x :: m=[x]++m from rfl,bD,Oh];omega
   rw[h1,show fw ch k=(ch k).reverse from rfl,h2,ih]
theorem bx{α:Type}(l:List α):l=[]∨∃init x,l=init++[x]:=by
 rcases List.eq_nil_or_concat l with h|⟨a,b,h⟩
 ·exact .inl h
 ·exact .inr ⟨a,b,by rw[h,List.concat_eq_append]⟩
def KOk(ns:List Nod):Prop:=∀(i:Nat) n,ns[i]?=some n→∀k∈n.kids,0≤k∧k<i
theorem KOk.ch{ns:List Nod}(h:KOk ns):cb (fun k=>if k<0 then [] else oe ns k):=by
 intro k x hx
 by_cases h0:k<0
 ·simp[h0] at hx
 ·simp only[h0,if_false,oe] at hx
  cases hn:ns[k.toNat]? with
  | none=>simp[hn] at hx
  | some n=>
   simp only[hn] at hx;have:=h _ _ hn x hx;omega
theorem yU(l:List Bool)(i j:Nat)(b:Bool)(hi:i<l.length):(l.set i b).getD j false=if i=j then b else l.getD j false:=by
 simp only[List.getD_eq_getElem?_getD,Q7]
 by_cases h:i=j
 ·subst h;simp[hi]
 ·simp[h]
theorem jv(i:Int):∀(l:List Int) (tk tk':List Bool),i≤tk.length→cv i l tk=some tk'→
  (∀k∈l,0≤k∧k<i)∧∀j:Nat,(tk'.getD j false).toNat=(tk.getD j false).toNat+l.count (j:Int)
 | [],tk,tk',_,h=>by simp[cv] at h;subst h;simp
 | k :: l,tk,tk',hi,h=>by
  unfold cv at h
  split at h
  ·cases h
  ·rename_i hc;have h0:0≤k∧k<i:=by omega
   have htk:tk.getD k.toNat false=false:=by
    cases hh:tk.getD k.toNat false with
    | false=>rfl
    | true=>exact absurd (.inr (.inr hh)) hc
   obtain⟨h1,h2⟩:=jv i l _ _ (by simpa using hi) h;refine⟨fun x hx=>?_,fun j=>?_⟩
   ·rcases OD.1 hx with rfl|hx
    ·exact h0
    ·exact h1 x hx
   ·rw[h2 j,yU _ _ _ _ (by omega),Pr]
    by_cases hj:k.toNat=j
    ·subst hj;rw[if_pos rfl,htk];have:(k==((k.toNat:Nat):Int))=true:=by simp;omega
     rw[this];simp;omega
    ·rw[if_neg hj];have:(k==(j:Int))=false:=by simp;omega
     rw[this];simp
theorem iB:∀(l:List Nod) (i:Nat) (tk tk':List Bool),i+l.length≤tk.length→cO i l tk=some tk'→
  (∀(j:Nat) n,l[j]?=some n→fits n n.kids.length=true∧∀k∈n.kids,0≤k∧k<((i+j:Nat):Int))∧
   ∀j:Nat,(tk'.getD j false).toNat=(tk.getD j false).toNat+(aB l).count (j:Int)
 | [],i,tk,tk',_,h=>by simp[cO] at h;subst h;simp[aB]
 | n :: l,i,tk,tk',hi,h=>by
  unfold cO at h
  split at h
  ·rename_i hf;obtain⟨t1,ht1,h⟩:=Option.bind_eq_some_iff.1 h;simp only[Og] at hi;obtain⟨a1,a2⟩:=jv i n.kids tk t1 (by omega) ht1;have hl:=lC i _ _ _ ht1;obtain⟨b1,b2⟩:=iB l (i+1) t1 tk' (by omega) h;refine⟨fun j m hj=>?_,fun j=>?_⟩
   ·cases j with
    | zero=>
     simp at hj;subst hj;exact⟨hf,fun k hk=>by have:=a1 k hk;omega⟩
    | succ j=>
     simp at hj;refine⟨(b1 j m hj).1,fun k hk=>?_⟩;have:=(b1 j m hj).2 k hk;omega
   ·rw[b2 j,a2 j];simp only[aB,OR,OP];omega
  ·cases h
structure ax(t:Tre):Prop where
 root:0≤t.root∧t.root<t.nodes.length
 fits:∀(i:Nat) n,t.nodes[i]?=some n→fits n n.kids.length=true
 kok:KOk t.nodes
 count:∀i:Nat,i<t.nodes.length→(aB t.nodes).count (i:Int)=if (i:Int)=t.root then 0 else 1
theorem ak{t:Tre}(h:ao t=true):ax t:=by
 unfold ao at h;simp only[Oi,decide_eq_true_eq] at h;obtain⟨⟨h1,h2⟩,h3⟩:=h
 split at h3
 ·cases h3
 ·rename_i tk htk;obtain⟨a,b⟩:=iB t.nodes 0 _ _ (by simp) htk;refine⟨⟨h1,h2⟩,fun i n hi=>(a i n hi).1,fun i n hi k hk=>?_,fun i hi=>?_⟩
  ·have:=(a i n hi).2 k hk;omega
  ·have hb:=b i;rw[OF] at h3;have hc:=h3 i (by simpa using hi);rw[show(List.replicate t.nodes.length false).getD i false=false by simp[List.getD_eq_getElem?_getD,Qz];split<;>rfl] at hb
   by_cases hr:(i:Int)=t.root
   ·rw[if_pos hr];simp only[hr,decide_true] at hc
    cases hv:tk.getD i false with
    | false=>rw[hv] at hb;simp at hb;omega
    | true=>rw[hv] at hc;simp at hc
   ·rw[if_neg hr];simp only[hr,decide_false] at hc
    cases hv:tk.getD i false with
    | false=>rw[hv] at hc;simp at hc
    | true=>rw[hv] at hb;simp at hb;omega
def ah(ns:List Nod)(k:Int):List Int:=if k<0 then [] else oe ns k
theorem KOk.ah{ns:List Nod}(h:KOk ns):cb (ah ns):=h.ch
theorem aM{ns:List Nod}{i:Nat}{n:Nod}(h:ns[i]?=some n):n.kids=ah ns i:=by
 have:¬((i:Int)<0):=by omega
 simp[ah,oe,h,this]
theorem E6{ns:List Nod}{k:Int}(h:(ns.length:Int)≤k):ah ns k=[]:=by
 unfold ah oe
 split
 ·rfl
 ·rw[OG (by omega)]
theorem vg{ns:List Nod}:((List.range ns.length).map Int.ofNat).flatMap (ah ns)=aB ns:=by
 unfold aB;rw[PN,PN,Rv]
 congr 1
 apply Qc;intro i;rw[Pv,Pv]
 by_cases hi:i<ns.length
 ·rw[QV hi,Oe hi];simp only[Rq,Function.comp];exact congrArg some (aM (Oe hi)).symm
 ·rw[OG (by simpa using hi),OG (by simpa using hi)];rfl
theorem vW{ch:Int→List Int}(hc:cb ch)(x:Int):∀(f:Nat) (l:List Int),(∀k∈l,0≤k∧k<f)→(dfs ch f l).count x=l.count x+((dfs ch f l).flatMap ch).count x
 | 0,l,h=>by
  cases l with
  | nil=>simp[dfs]
  | cons k l=>have:=h k (by simp);omega
 | f+1,l,h=>by
  induction l with
  | nil=>simp[dfs]
  | cons k l ih=>
   have ih:=ih (fun y hy=>h y (by simp[hy]));have hk:=h k (by simp);have h2:=vW hc x f (ch k) (fun y hy=>⟨(hc k y hy).1,by have:=(hc k y hy).2;omega⟩);simp only[dfs,OR,OP,Pr,PE] at ih h2 ⊢;omega
theorem iU{ch:Int→List Int}(hc:cb ch):∀(f:Nat) (l:List Int),(∀k∈l,0≤k∧k<f)→∀x∈dfs ch f l,0≤x∧x<f
 | 0,l,h,x,hx=>by simp[dfs] at hx
 | f+1,l,h,x,hx=>by
  simp only[dfs,Qg,OD] at hx;obtain⟨k,hk,rfl|hx⟩:=hx
  ·exact h x hk
  ·have hk:=h k hk;have:=iU hc f (ch k) (fun y hy=>⟨(hc k y hy).1,by have:=(hc k y hy).2;omega⟩) x hx;omega
theorem Jb{ch:Int→List Int}(f:Nat)(l:List Int)(hf:0<f):l.Sublist (dfs ch f l):=by
 cases f with
 | zero=>omega
 | succ f=>
  induction l with
  | nil=>simp
  | cons k l ih=>
   simp only[dfs,OR] at ih ⊢;exact List.Sublist.cons_cons k (ih.trans (List.sublist_append_right _ _))
theorem DB{ch:Int→List Int}(hc:cb ch):∀(f:Nat) (l:List Int),(∀k∈l,0≤k∧k<f)→∀y∈dfs ch f l,(y :: ch y).Sublist (dfs ch f l)
 | 0,l,h,y,hy=>by simp[dfs] at hy
 | f+1,l,h,y,hy=>by
  simp only[dfs,Qg,OD] at hy;obtain⟨k,hk,hy⟩:=hy;have hkf:=h k hk;have hin:(k :: dfs ch f (ch k)).Sublist (dfs ch (f+1) l):=by
   obtain⟨a,b,rfl⟩:=List.append_of_mem hk;simp only[dfs,PE,OR];exact(List.sublist_append_left _ _).trans (List.sublist_append_right _ _)
  refine List.Sublist.trans ?_ hin;rcases hy with rfl|hy
  ·by_cases hf:0<f
   ·exact List.Sublist.cons_cons y (Jb f _ hf)
   ·have:ch y=[]:=by
     cases hy:ch y with
     | nil=>rfl
     | cons z l=>have:=hc y z (by rw[hy];simp);omega
    rw[this];simp
  ·exact(DB hc f (ch k) (fun z hz=>⟨(hc k z hz).1,by have:=(hc k z hz).2;omega⟩) y hy).cons k
def BV(t:Tre):List Int:=dfs (ah t.nodes) t.nodes.length [t.root]
theorem oq(N:Nat)(x:Int):((List.range N).map Int.ofNat).count x=if 0≤x∧x<N then 1 else 0:=by
 have hnd:((List.range N).map Int.ofNat).Nodup:=by
  refine List.Pairwise.map _ (fun a b (h:a≠b)=>?_) List.nodup_range;exact fun e=>h (Int.ofNat.inj e)
 by_cases h:0≤x∧x<N
 ·rw[if_pos h,hnd.count,if_pos];refine Pq.2 ⟨x.toNat,Pf.2 (by omega),?_⟩;show((x.toNat:Nat):Int)=x
  omega
 ·rw[if_neg h];refine O8.2 fun hm=>h ?_
  obtain⟨y,hy,rfl⟩:=Pq.1 hm;have:=Pf.1 hy;exact⟨Int.natCast_nonneg y,by show((y:Nat):Int)<N;omega⟩
theorem ni{t:Tre}(h:ax t):∀(d:Nat) (x:Int),0≤x→x<t.nodes.length→t.nodes.length≤x.toNat+d→(BV t).count x=1
 | 0,x,h0,h1,h2=>by omega
 | d+1,x,h0,h1,h2=>by
  have hc:=h.kok.ah;have hl:∀k∈[t.root],0≤k∧k<(t.nodes.length:Int):=by
   intro k hk;simp at hk;subst hk;exact h.root
  have e:=vW hc x t.nodes.length [t.root] hl;have hf:∀D:List Int,(D.flatMap (ah t.nodes)).count x=((D.filter (fun y=>decide (x<y))).flatMap (ah t.nodes)).count x:=by
   intro D
   induction D with
   | nil=>rfl
   | cons y D ih=>
    rw[OR,OP,ih,QT]
    by_cases hy:x<y
    ·simp[hy]
    ·simp only[hy,decide_false,OQ,if_false];have:(ah t.nodes y).count x=0:=O8.2 fun hm=>by have:=(hc y x hm).2;omega
     omega
  have hp:((dfs (ah t.nodes) t.nodes.length [t.root]).filter (fun y=>decide (x<y))).Perm (((List.range t.nodes.length).map Int.ofNat).filter (fun y=>decide (x<y))):=by
   rw[QW];intro y
   by_cases hy:x<y
   ·rw[List.count_filter (by simpa using hy),List.count_filter (by simpa using hy),oq]
    by_cases hn:y<t.nodes.length
    ·rw[if_pos ⟨by omega,hn⟩];exact ni h d y (by omega) hn (by omega)
    ·rw[if_neg (by omega)];exact O8.2 fun hm=>hn (iU hc _ _ hl y hm).2
   ·rw[O8.2 (fun hm=>by have:=(Qu.1 hm).2;simp at this;omega),O8.2 (fun hm=>by have:=(Qu.1 hm).2;simp at this;omega)]
  have e2:=(hp.flatMap_right (ah t.nodes)).count_eq x;rw[←hf,←hf,vg] at e2;have e3:=h.count x.toNat (by omega);rw[show((x.toNat:Nat):Int)=x by omega] at e3;unfold BV;rw[e,e2,e3,Pr,Rz]
  by_cases hr:x=t.root
  ·subst hr;simp
  ·have:(t.root==x)=false:=by simp;omega
   simp[hr,this]
structure Nw(t:Tre)(row:List Int):Prop where
 len:row.length=t.nodes.length
 head:row.head?=some t.root
 nodup:row.Nodup
 mem:∀x,x∈row↔0≤x∧x<t.nodes.length
 kids:∀(i:Nat) n,t.nodes[i]?=some n→((i:Int) :: n.kids).Sublist row
theorem AV{t:Tre}(h:ax t):Nw t (BV t):=by
 have hc:=h.kok.ah;have hl:∀k∈[t.root],0≤k∧k<(t.nodes.length:Int):=by
  intro k hk;simp at hk;subst hk;exact h.root
 have hmem:∀x,x∈BV t↔0≤x∧x<t.nodes.length:=by
  intro x;refine⟨fun hx=>iU hc _ _ hl x hx,fun hx=>?_⟩;have:=ni h t.nodes.length x hx.1 hx.2 (by omega);exact Qk.1 (by omega)
 have hp:(BV t).Perm ((List.range t.nodes.length).map Int.ofNat):=by
  rw[QW];intro y;rw[oq]
  by_cases hy:0≤y∧y<t.nodes.length
  ·rw[if_pos hy];exact ni h t.nodes.length y hy.1 hy.2 (by omega)
  ·rw[if_neg hy];exact O8.2 fun hm=>hy ((hmem y).1 hm)
 refine⟨by rw[hp.length_eq];simp,?_,?_,hmem,fun i n hn=>?_⟩
 ·unfold BV;rw[aS hc h.root.1 h.root.2];rfl
 ·rw[hp.nodup_iff];refine List.Pairwise.map _ (fun a b (h:a≠b)=>?_) List.nodup_range;exact fun e=>h (Int.ofNat.inj e)
 ·have hi:=(Ox.1 hn).1;rw[aM hn];exact DB hc _ _ hl i ((hmem i).2 ⟨by omega,by omega⟩)
def aU(t:Tre)(node:Int):List Int:=jU (ah t.nodes) t.nodes.length [node]
def bo(ns:List Nod):Nat→List Int→List Int→List Nod
 | _,_,[]=>[]
 | i,place,k :: l=>
  { ns.getD k.toNat .zero with kids:=(ns.getD k.toNat .zero).kids.map fun x=>(place.set k.toNat i).getD x.toNat 0 } :: bo ns (i+1) (place.set k.toNat i) l
def aC(t:Tre)(node:Int):Tre:=⟨bo t.nodes 0 (List.replicate t.nodes.length 0) (aU t node),(aU t node).length - 1⟩
def b8(ns:List Nod)(by_:Int):List Nod:=ns.map fun n=>{ n with kids:=n.kids.map (· + by_) }
def jQ:List Tre→List Nod→List Int→Option (List Nod×List Int)
 | [],a,l=>some (a,l)
 | k :: ks,a,l=>if ao k=true then jQ ks (a++b8 (aC k k.root).nodes a.length) (l++[((a.length+(aC k k.root).nodes.length:Nat):Int) - 1]) else none
def ofP(n:Nod)(kids:List Tre):Tre×Bool:=
 if fits n kids.length=true then match jQ kids [] [] with
  | some (a,l)=>(⟨a++[{ n with kids:=l }],a.length⟩,true)
  | none=>(.zero,false)
 else (.zero,false)
def aW(t:Tre):Tre:=if ao t=true then aC t t.root else .zero
def j9(a b:Tre):Bool:=decide (a.nodes.length=b.nodes.length)&&ao a&&ao b&&decide ((aC a a.root).nodes=(aC b b.root).nodes)
def iF(t:Tre):Int:=if ao t=true then t.nodes.length else 0
def fB(deep:List Int)(d:Int):List Int→Int
 | []=>d
 | k :: l=>fB deep (max d (deep.getD k.toNat 0)) l
def iz:List Nod→List Int→List Int
 | [],deep=>deep
 | n :: l,deep=>iz l (deep++[fB deep 0 n.kids+1])
def gL(t:Tre):Int:=if ao t=true then (iz t.nodes []).getD t.root.toNat 0 else 0
def kO(t:Tre):Bool:=decide (t.nodes.length≤1024)&&ao t&&decide (gL t≤32)
def my(n:Nod):Tre:=⟨[n],0⟩
def dB:Nod:=⟨0,.zero,⟨#[]⟩,0,0,[]⟩
theorem sT(ch:Int→List Int):∀(f:Nat) (l:List Int) (x:Int),(jU ch f l).count x=(dfs ch f l).count x
 | 0,l,x=>rfl
 | f+1,l,x=>by
  induction l with
  | nil=>rfl
  | cons k l ih=>
   simp only[dfs,jU,OR,OP,Pr,Rz] at ih ⊢;have:=sT ch f (ch k) x;omega
theorem dc(ch:Int→List Int)(f:Nat)(l:List Int):(jU ch f l).Perm (dfs ch f l):=QW.2 (sT ch f l)
theorem jf(ns:List Nod):∀(l:List Int) (i:Nat) (pl:List Int),(bo ns i pl l).length=l.length
 | [],_,_=>rfl
 | k :: l,i,pl=>by simp[bo,jf ns l]
theorem jC{ch:Int→List Int}(hc:cb ch)(f:Nat):∀(m:Nat) (l:List Int),(∀k∈l,0≤k∧k<m)→m≤f→∀y∈dfs ch f l,(dfs ch f [y]).length≤(dfs ch f l).length
 | 0,l,h,hf,y,hy=>by
  cases l with
  | nil=>rw[bT] at hy;cases hy
  | cons k l=>have:=h k (by simp);omega
 | m+1,l,h,hf,y,hy=>by
  induction l with
  | nil=>rw[bT] at hy;cases hy
  | cons k l ih=>
   have hk:=h k (by simp);rw[aS hc hk.1 (by omega)] at hy ⊢;have ih:=ih (fun z hz=>h z (by simp[hz]));simp only[Og,Oh];rcases OD.1 hy with rfl|hy
   ·rw[aS hc hk.1 (by omega),bT];simp
   ·rcases Oy.1 hy with hy|hy
    ·have:=jC hc f m (ch k) (fun z hz=>⟨(hc k z hz).1,by have:=(hc k z hz).2;omega⟩) (by omega) y hy;omega
    ·have:=ih hy;omega
theorem KK{t:Tre}(h:ax t){node:Int}(h0:0≤node)(hn:node<t.nodes.length):(dfs (ah t.nodes) t.nodes.length [node]).length≤t.nodes.length:=by
 have hr:=AV h;have:=jC h.kok.ah t.nodes.length t.nodes.length [t.root] (by intro k hk;simp at hk;subst hk;exact h.root) (Ov _) node ((hr.mem node).2 ⟨h0,hn⟩);have e:(dfs (ah t.nodes) t.nodes.length [t.root]).length=t.nodes.length:=hr.len;omega
theorem fP{t:Tre}(h:ax t){node:Int}(h0:0≤node)(hn:node<t.nodes.length):(aU t node).length≤t.nodes.length:=by
 rw[aU,(dc _ _ _).length_eq];exact KK h h0 hn
theorem uC{t:Tre}(h:ax t){node:Int}(h0:0≤node)(hn:node<t.nodes.length):∀x∈aU t node,0≤x∧x<t.nodes.length:=by
 intro x hx;rw[aU,(dc _ _ _).mem_iff] at hx;exact iU h.kok.ah _ _ (by intro k hk;simp at hk;subst hk;exact⟨h0,hn⟩) x hx
inductive Fo where
 | nil
 | cons (n:Nod) (k r:Fo)
deriving DecidableEq
def Fo.size:Fo→Nat
 | nil=>0
 | cons _ k r=>k.size+1+r.size
def Fo.len:Fo→Nat
 | nil=>0
 | cons _ _ r=>r.len+1
def Fo.bX:Nat→Fo→List Int
 | _,nil=>[]
 | o,cons _ k r=>((o+k.size:Nat):Int) :: r.bX (o+k.size+1)
def Fo.ar:Nat→Fo→List Nod
 | _,nil=>[]
 | o,cons n k r=>k.ar o++{ n with kids:=k.bX o } :: r.ar (o+k.size+1)
def Fo.fit:Fo→Bool
 | nil=>true
 | cons n k r=>fits n k.len&&k.fit&&r.fit
def Fo.bare:Fo→Prop
 | nil=>True
 | cons n k r=>n.kids=[]∧k.bare∧r.bare
def Fo.depth:Fo→Int
 | nil=>0
 | cons _ k r=>max (k.depth+1) r.depth
def Fo.app:Fo→Fo→Fo
 | nil,g=>g
 | cons n k r,g=>cons n k (r.app g)
def dat(ns:List Nod)(k:Int):Nod:={ ns.getD k.toNat .zero with kids:=[] }
def aF(ns:List Nod):Nat→List Int→Fo
 | 0,_=>.nil
 | f+1,l=>l.foldr (fun k r=>.cons (dat ns k) (aF ns f (ah ns k)) r) .nil
def foT(t:Tre):Fo:=aF t.nodes t.nodes.length [t.root]
def aR(F:Fo):Tre:=⟨F.ar 0,(F.size:Int) - 1⟩
theorem mP(n:Nod)(ks:List Int)(c:Int):fits { n with kids:=ks } c=fits n c:=rfl
theorem aA(ns:List Nod)(f:Nat):aF ns f []=.nil:=by cases f<;>rfl
theorem aH(ns:List Nod)(f:Nat)(k:Int)(l:List Int):aF ns (f+1) (k :: l)=.cons (dat ns k) (aF ns f (ah ns k)) (aF ns (f+1) l):=rfl
theorem Fo.cT:∀(F:Fo) (o:Nat),(F.ar o).length=F.size
 | nil,_=>rfl
 | cons n k r,o=>by simp[ar,size,cT k,cT r];omega
theorem Fo.kh:∀(F:Fo) (o:Nat),(F.bX o).length=F.len
 | nil,_=>rfl
 | cons n k r,o=>by simp[bX,len,kh r]
theorem Fo.tP:∀(F:Fo) (o:Nat),∀x∈F.bX o,(o:Int)≤x∧x<((o+F.size:Nat):Int)
 | nil,_,x,h=>by simp[bX] at h
 | cons n k r,o,x,h=>by
  simp only[bX,OD] at h;simp only[size];rcases h with rfl|h
  ·omega
  ·have:=tP r _ x h;omega
theorem vH(ns:List Nod):∀(f:Nat) (l:List Int),(aF ns f l).bare
 | 0,l=>trivial
 | f+1,l=>by
  induction l with
  | nil=>exact trivial
  | cons k l ih=>exact⟨rfl,vH ns f _,ih⟩
theorem zK(ns:List Nod):∀(f:Nat) (l:List Int),0<f→(aF ns f l).len=l.length
 | 0,l,h=>by omega
 | f+1,l,h=>by
  induction l with
  | nil=>rfl
  | cons k l ih=>rw[aH,Fo.len,ih];rfl
theorem cN{ns:List Nod}(h:cb (ah ns)):∀(f g:Nat) (l:List Int),(∀k∈l,0≤k∧k<f)→(∀k∈l,k<g)→aF ns f l=aF ns g l
 | 0,g,l,hf,hg=>by
  cases l with
  | nil=>rw[aA,aA]
  | cons k l=>have:=hf k (by simp);omega
 | f+1,0,l,hf,hg=>by
  cases l with
  | nil=>rw[aA,aA]
  | cons k l=>
   have:=hf k (by simp);have:=hg k (by simp);omega
 | f+1,g+1,l,hf,hg=>by
  induction l with
  | nil=>rfl
  | cons k l ih=>
   have h1:=hf k (by simp);have h2:=hg k (by simp);rw[aH,aH,ih (fun x hx=>hf x (by simp[hx])) (fun x hx=>hg x (by simp[hx])),
    cN h f g (ah ns k) (fun x hx=>⟨(h k x hx).1,by have:=(h k x hx).2;omega⟩) (fun x hx=>by have:=(h k x hx).2;omega)]
theorem qI(l:List Int)(i j:Nat)(b:Int):(l.set i b).getD j 0=if i=j∧i<l.length then b else l.getD j 0:=by
 simp only[List.getD_eq_getElem?_getD,Q7]
 by_cases h:i=j
 ·subst h
  by_cases hl:i<l.length
  ·simp[hl]
  ·simp[hl]
 ·simp[h]
theorem ln{ns:List Nod}(hc:cb (ah ns)):∀(f:Nat) (l:List Int) (i:Nat) (pl rest:List Int),(∀k∈l,0≤k∧k<f)→f≤ns.length→pl.length=ns.length→(jU (ah ns) f l).Nodup→
  ∃pl':List Int,pl'.length=ns.length∧bo ns i pl (jU (ah ns) f l++rest)=(aF ns f l).ar i++bo ns (i+(aF ns f l).size) pl' rest∧
   (l.map fun x=>pl'.getD x.toNat 0)=(aF ns f l).bX i∧∀x:Int,0≤x→x ∉ jU (ah ns) f l→pl'.getD x.toNat 0=pl.getD x.toNat 0
 | 0,l,i,pl,rest,hl,hf,hp,hn=>by
  cases l with
  | nil=>exact⟨pl,hp,by simp[z5,aA,Fo.ar,Fo.size],rfl,fun _ _ _=>rfl⟩
  | cons k l=>have:=hl k (by simp);omega
 | f+1,[],i,pl,rest,hl,hf,hp,hn=>⟨pl,hp,by simp[z5,aA,Fo.ar,Fo.size],rfl,fun _ _ _=>rfl⟩
 | f+1,k :: l,i,pl,rest,hl,hf,hp,hn=>by
  have hk:=hl k (by simp);have hchk:∀x∈ah ns k,0≤x∧x<(f:Int):=fun x hx=>⟨(hc k x hx).1,by have:=(hc k x hx).2;omega⟩
  have e:jU (ah ns) (f+1) (k :: l)=jU (ah ns) f (ah ns k)++(k :: jU (ah ns) (f+1) l):=by simp[jU]
  rw[e] at hn ⊢;obtain⟨n1,n2,n3⟩:=QK.1 hn;obtain⟨n4,n5⟩:=Q0.1 n2;obtain⟨p1,q1,q2,q3,q4⟩:=ln hc f (ah ns k) i pl (k :: jU (ah ns) (f+1) l++rest) hchk (by omega) hp n1;have hkl:k.toNat<p1.length:=by omega
  obtain⟨p2,r1,r2,r3,r4⟩:=ln hc (f+1) l (i+(aF ns f (ah ns k)).size+1) (p1.set k.toNat ((i+(aF ns f (ah ns k)).size:Nat):Int)) rest (fun x hx=>hl x (by simp[hx])) hf (by simpa using q1) n5;have hkd:ns.getD k.toNat .zero={ dat ns k with kids:=ah ns k }:=by
   have:k.toNat<ns.length:=by omega
   have h2:=Oe this;have h3:=aM h2;rw[show((k.toNat:Nat):Int)=k by omega] at h3;simp only[dat,List.getD_eq_getElem?_getD,h2,PK];rw[←h3]
  have hks:(ah ns k).map (fun x=>(p1.set k.toNat ((i+(aF ns f (ah ns k)).size:Nat):Int)).getD x.toNat 0)=(aF ns f (ah ns k)).bX i:=by
   rw[←q3];apply Pk;intro x hx;have:=hchk x hx;have:=(hc k x hx).2;rw[qI,if_neg (by omega)]
  refine⟨p2,r1,?_,?_,?_⟩
  ·rw[List.append_assoc,q2];simp only[List.cons_append,bo];rw[r2,hkd,aH];simp only[Fo.ar,Fo.size,hks,List.append_assoc,List.cons_append];rw[show i+((aF ns f (ah ns k)).size+1+(aF ns (f+1) l).size)=i+(aF ns f (ah ns k)).size+1+(aF ns (f+1) l).size by omega]
  ·rw[aH,Fo.bX,OB,r3,r4 k hk.1 n4,qI,if_pos ⟨rfl,hkl⟩]
  ·intro x h0 hx;simp only[Oy,OD,not_or] at hx;rw[r4 x h0 hx.2.2,qI,if_neg (by omega),q4 x h0 hx.1]
theorem kH(ns:List Nod):∀(f:Nat) (l:List Int),(aF ns f l).size=(jU (ah ns) f l).length
 | 0,l=>rfl
 | f+1,l=>by
  induction l with
  | nil=>rfl
  | cons k l ih=>
   rw[aH,Fo.size,ih,kH ns f];simp[jU];omega
theorem xh{t:Tre}(h:ax t){node:Int}(h0:0≤node)(hn:node<t.nodes.length):(jU (ah t.nodes) t.nodes.length [node]).Nodup:=by
 rw[(dc _ _ _).nodup_iff];have hr:=AV h;have key:∀(m:Nat) (l:List Int),(∀k∈l,0≤k∧k<m)→m≤t.nodes.length→(dfs (ah t.nodes) t.nodes.length l).Nodup→∀y∈dfs (ah t.nodes) t.nodes.length l,(dfs (ah t.nodes) t.nodes.length [y]).Nodup:=by
  intro m
  induction m with
  | zero=>
   intro l hl _ _ y hy
   cases l with
   | nil=>rw[bT] at hy;cases hy
   | cons k l=>have:=hl k (by simp);omega
  | succ m ihm=>
   intro l hl hm hnd y hy
   induction l with
   | nil=>rw[bT] at hy;cases hy
   | cons k l ih=>
    have hk:=hl k (by simp);rw[aS h.kok.ah hk.1 (by omega)] at hy hnd;obtain⟨a1,a2⟩:=Q0.1 hnd;obtain⟨b1,b2,b3⟩:=QK.1 a2;rcases OD.1 hy with rfl|hy
    ·rw[aS h.kok.ah hk.1 (by omega),bT,Oj];exact Q0.2 ⟨fun hh=>a1 (by simp[hh]),b1⟩
    ·rcases Oy.1 hy with hy|hy
     ·exact ihm (ah t.nodes k) (fun x hx=>⟨(h.kok.ah k x hx).1,by have:=(h.kok.ah k x hx).2;omega⟩) (by omega) b1 y hy
     ·exact ih (fun x hx=>hl x (by simp[hx])) b2 hy
 exact key t.nodes.length [t.root] (by intro k hk;simp at hk;subst hk;exact h.root) (Ov _) hr.nodup node ((hr.mem node).2 ⟨h0,hn⟩)
theorem mM{t:Tre}(h:ax t){node:Int}(h0:0≤node)(hn:node<t.nodes.length):aC t node=aR (aF t.nodes t.nodes.length [node]):=by
 obtain⟨pl,h1,h2,h3,h4⟩:=ln h.kok.ah t.nodes.length [node] 0 (List.replicate t.nodes.length 0) [] (by intro k hk;simp at hk;subst hk;exact⟨h0,hn⟩) (Ov _) (by simp) (xh h h0 hn);unfold aC aR aU;rw[kH];simp only[Oj] at h2;rw[h2];simp[bo]
theorem xQ:∀(F:Fo),F.bare→∀(f:Nat) (pre post:List Nod),pre.length+F.size≤f→aF (pre++(F.ar pre.length++post)) f (F.bX pre.length)=F
 | .nil,_,f,pre,post,_=>by simp[Fo.bX,aA]
 | .cons n k r,hb,0,pre,post,hf=>by simp[Fo.size] at hf
 | .cons n k r,hb,f+1,pre,post,hf=>by
  obtain⟨b1,b2,b3⟩:=hb;simp only[Fo.size] at hf;have ek:=xQ k b2 f pre ({ n with kids:=k.bX pre.length } :: r.ar (pre.length+k.size+1)++post) (by omega);have el:(pre++(k.ar pre.length++[{ n with kids:=k.bX pre.length }])).length=pre.length+k.size+1:=by simp[Fo.cT];omega
  have er:=xQ r b3 (f+1) (pre++(k.ar pre.length++[{ n with kids:=k.bX pre.length }])) post (by rw[el];omega);rw[el] at er;have e1:pre++((Fo.cons n k r).ar pre.length++post)=pre++(k.ar pre.length++({ n with kids:=k.bX pre.length } :: r.ar (pre.length+k.size+1)++post)):=by simp[Fo.ar]
  have e2:pre++((Fo.cons n k r).ar pre.length++post)=pre++(k.ar pre.length++[{ n with kids:=k.bX pre.length }])++(r.ar (pre.length+k.size+1)++post):=by simp[Fo.ar]
  rw[←e1] at ek;rw[←e2] at er;have hget:(pre++((Fo.cons n k r).ar pre.length++post))[pre.length+k.size]?=some { n with kids:=k.bX pre.length }:=by
   rw[e1,OL (by omega),PW,OL (by rw[Fo.cT];omega),Fo.cT,Pt];rfl
  have hch:=aM hget;simp only at hch;rw[Fo.bX,aH,er,←hch,ek]
  congr 1
  simp only[dat,Oo,List.getD_eq_getElem?_getD,hget,PK];rw[←b1]
theorem ku{n:Nod}{k:Fo}(hb:(Fo.cons n k .nil).bare):foT (aR (.cons n k .nil))=.cons n k .nil:=by
 have h:=xQ (.cons n k .nil) hb ((Fo.cons n k .nil).ar 0).length [] [] (by simp[Fo.cT]);simp only[Ol,OH,Oj] at h;unfold foT aR;simp only;conv=>rhs;rw[←h]
 congr 1
 simp only[Fo.bX,Fo.size]
 congr 1
 omega
theorem nN(i:Int):∀(l:List Int) (tk:List Bool),i≤tk.length→(∀k∈l,0≤k∧k<i)→(∀j:Nat,(tk.getD j false).toNat+l.count (j:Int)≤1)→∃tk',cv i l tk=some tk'
 | [],tk,_,_,_=>⟨tk,rfl⟩
 | k :: l,tk,hi,hk,hc=>by
  have h0:=hk k (by simp);have hck:=hc k.toNat;rw[show((k.toNat:Nat):Int)=k by omega,Pr,beq_self_eq_true,if_pos rfl] at hck;have htk:tk.getD k.toNat false=false:=by
   cases hh:tk.getD k.toNat false with
   | false=>rfl
   | true=>rw[hh] at hck;simp at hck;omega
  unfold cv;rw[if_neg (by rw[htk];simp;omega)];refine nN i l _ (by simpa using hi) (fun x hx=>hk x (by simp[hx])) (fun j=>?_);have hcj:=hc j;rw[yU _ _ _ _ (by omega)];rw[Pr] at hcj
  by_cases hj:k.toNat=j
  ·subst hj;rw[if_pos rfl];rw[show((k.toNat:Nat):Int)=k by omega] at hcj ⊢;simp at hcj ⊢;omega
  ·rw[if_neg hj];have:(k==(j:Int))=false:=by simp;omega
   rw[this] at hcj;simpa using hcj
def NOk(i:Nat)(l:List Nod):Prop:=∀(j:Nat) n,l[j]?=some n→fits n n.kids.length=true∧∀k∈n.kids,0≤k∧k<((i+j:Nat):Int)
theorem mJ:∀(l:List Nod) (i:Nat) (tk:List Bool),i+l.length≤tk.length→NOk i l→(∀j:Nat,(tk.getD j false).toNat+(aB l).count (j:Int)≤1)→∃tk',cO i l tk=some tk'
 | [],i,tk,_,_,_=>⟨tk,rfl⟩
 | n :: l,i,tk,hi,hn,hc=>by
  simp only[Og] at hi;have h0:=hn 0 n rfl;simp only[aB,OR,OP] at hc;obtain⟨t1,ht1⟩:=nN i n.kids tk (by omega) (fun k hk=>by have:=h0.2 k hk;omega) (fun j=>by have:=hc j;omega);have hl:=lC i _ _ _ ht1;obtain⟨_,a2⟩:=jv i n.kids tk t1 (by omega) ht1;obtain⟨t2,ht2⟩:=mJ l (i+1) t1 (by omega) (fun j m hj=>⟨(hn (j+1) m (by simpa using hj)).1,fun k hk=>by have:=(hn (j+1) m (by simpa using hj)).2 k hk;omega⟩)
   (fun j=>by rw[a2 j];have:=hc j;simp only[aB];omega)
  refine⟨t2,?_⟩;unfold cO;rw[if_pos h0.1,ht1];exact ht2
theorem qt{t:Tre}(hr:0≤t.root∧t.root<t.nodes.length)(hn:NOk 0 t.nodes)(hc:∀i:Nat,i<t.nodes.length→(aB t.nodes).count (i:Int)=if (i:Int)=t.root then 0 else 1):ao t=true:=by
 have hz:∀j,(List.replicate t.nodes.length false).getD j false=false:=fun j=>by simp[List.getD_eq_getElem?_getD,Qz];split<;>rfl
 have hle:∀j:Nat,(aB t.nodes).count (j:Int)≤1:=by
  intro j
  by_cases hj:j<t.nodes.length
  ·rw[hc j hj];split<;>omega
  ·rw[O8.2]
   ·omega
   ·intro hm;obtain⟨n,hn1,hn2⟩:=Qg.1 hm;obtain⟨i,hi⟩:=PS.1 hn1;have:=(hn i n hi).2 _ hn2;have:=(Ox.1 hi).1;omega
 obtain⟨tk,htk⟩:=mJ t.nodes 0 (List.replicate t.nodes.length false) (by simp) hn (fun j=>by rw[hz];have:=hle j;simpa using this);obtain⟨_,b⟩:=iB t.nodes 0 _ _ (by simp) htk;unfold ao;rw[htk];simp only[Oi,decide_eq_true_eq];refine⟨⟨hr.1,hr.2⟩,?_⟩;rw[OF];intro i hi;have hi:i<t.nodes.length:=by simpa using hi
 have hb:=b i;rw[hz,hc i hi] at hb
 by_cases h:(i:Int)=t.root
 ·rw[if_pos h] at hb;simp only[h,decide_true]
  cases hv:tk.getD i false with
  | false=>rfl
  | true=>rw[hv] at hb;simp at hb
 ·rw[if_neg h] at hb;simp only[h,decide_false]
  cases hv:tk.getD i false with
  | false=>rw[hv] at hb;simp at hb
  | true=>rfl
theorem ax.right{t:Tre}(h:ax t):ao t=true:=
 qt h.root (fun i n hi=>⟨h.fits i n hi,fun k hk=>by have:=h.kok i n hi k hk;omega⟩) h.count
theorem bG{t:Tre}:ao t=true↔ax t:=⟨ak,ax.right⟩
theorem NOk.app{i:Nat}{a b:List Nod}(ha:NOk i a)(hb:NOk (i+a.length) b):NOk i (a++b):=by
 intro j n hj
 by_cases h:j<a.length
 ·rw[O6 h] at hj;exact ha j n hj
 ·rw[OL (by omega)] at hj;obtain⟨h1,h2⟩:=hb _ n hj;exact⟨h1,fun k hk=>by have:=h2 k hk;omega⟩
theorem Fo.nok:∀(F:Fo) (o:Nat),F.fit=true→NOk o (F.ar o)
 | nil,o,_=>fun j n h=>by simp[ar] at h
 | cons n k r,o,h=>by
  simp only[fit,Oi] at h;have hk:=nok k o h.1.2;have hr:=nok r (o+k.size+1) h.2;rw[ar];refine hk.app ?_;rw[show({ n with kids:=k.bX o } :: r.ar (o+k.size+1))=[{ n with kids:=k.bX o }]++r.ar (o+k.size+1) from rfl];refine NOk.app ?_ (by rw[cT];simpa [P9] using hr);intro j m hj
  cases j with
  | zero=>
   simp at hj;subst hj;refine⟨by rw[mP,kh];exact h.1.1,fun x hx=>?_⟩;have:=tP k o x hx;rw[cT];omega
  | succ j=>simp at hj
theorem Fo.counts:∀(F:Fo) (o:Nat) (x:Int),(aB (F.ar o)).count x+(F.bX o).count x=if (o:Int)≤x∧x<((o+F.size:Nat):Int) then 1 else 0
 | nil,o,x=>by
  rw[if_neg (by simp only[size];omega)];rfl
 | cons n k r,o,x=>by
  have hk:=counts k o x;have hr:=counts r (o+k.size+1) x;have e:aB ((Fo.cons n k r).ar o)=aB (k.ar o)++(k.bX o++aB (r.ar (o+k.size+1))):=by simp[aB,ar]
  rw[e,bX,OP,OP,Pr,size]
  by_cases h:((o+k.size:Nat):Int)=x
  ·rw[if_neg (by omega)] at hk hr;have hb:(((o+k.size:Nat):Int)==x)=true:=by simpa using h
   rw[hb,if_pos rfl,if_pos (by omega)];omega
  ·have hb:(((o+k.size:Nat):Int)==x)=false:=by simpa using h
   rw[hb];simp only[OQ,if_false]
   by_cases h1:(o:Int)≤x∧x<((o+k.size:Nat):Int)
   ·rw[if_pos h1] at hk;rw[if_neg (by omega)] at hr;rw[if_pos (by omega)];omega
   ·rw[if_neg h1] at hk
    by_cases h2:((o+k.size+1:Nat):Int)≤x∧x<((o+k.size+1+r.size:Nat):Int)
    ·rw[if_pos h2] at hr;rw[if_pos (by omega)];omega
    ·rw[if_neg h2] at hr;rw[if_neg (by omega)];omega
theorem jo{n:Nod}{k:Fo}(h:(Fo.cons n k .nil).fit=true):ao (aR (.cons n k .nil))=true:=by
 have hl:=Fo.cT (.cons n k .nil) 0;refine qt ?_ (Fo.nok _ 0 h) (fun i hi=>?_)
 ·simp only[aR,hl,Fo.size];omega
 ·have hc:=Fo.counts (.cons n k .nil) 0 (i:Int);have hi:i<(Fo.cons n k .nil).size:=by rw[←hl];exact hi
  show(aB ((Fo.cons n k .nil).ar 0)).count (i:Int)=if (i:Int)=((Fo.cons n k .nil).size:Int) - 1 then 0 else 1
  rw[if_pos (by omega)] at hc;simp only[Fo.bX,Pr,Rz] at hc;have hsz:((Fo.cons n k .nil).size:Int) - 1=(k.size:Int):=by simp only[Fo.size];omega
  by_cases he:(i:Int)=(k.size:Int)
  ·rw[if_pos (he.trans hsz.symm)];have:(((0+k.size:Nat):Int)==(i:Int))=true:=by simp;omega
   rw[this] at hc;simp at hc;exact hc
  ·rw[if_neg (fun e=>he (e.trans hsz))];have:(((0+k.size:Nat):Int)==(i:Int))=false:=by simp;omega
   rw[this] at hc;simpa using hc
theorem oY{t:Tre}(h:ax t):∀(f:Nat) (l:List Int),(∀k∈l,0≤k∧k<f)→f≤t.nodes.length→(aF t.nodes f l).fit=true
 | 0,l,_,_=>rfl
 | f+1,l,hl,hf=>by
  induction l with
  | nil=>rfl
  | cons k l ih=>
   have hk:=hl k (by simp);rw[aH,Fo.fit,ih (fun x hx=>hl x (by simp[hx])),oY h f _ (fun x hx=>⟨(h.kok.ah k x hx).1,by have:=(h.kok.ah k x hx).2;omega⟩) (by omega),Qw,Qw];have hlt:k.toNat<t.nodes.length:=by omega
   have hg:=Oe hlt;have h1:=h.fits _ _ hg;have h2:=aM hg;rw[show((k.toNat:Nat):Int)=k by omega] at h2;have hlen:(aF t.nodes f (ah t.nodes k)).len=(ah t.nodes k).length:=by
    cases f with
    | zero=>
     cases hc:ah t.nodes k with
     | nil=>rfl
     | cons x l=>
      have:=h.kok.ah k x (by rw[hc];simp);omega
    | succ f=>exact zK _ _ _ (by omega)
   rw[hlen,←h2];simp only[dat,List.getD_eq_getElem?_getD,hg,PK,mP];exact h1
theorem fX{t:Tre}(h:ax t):∃n k,foT t=.cons n k .nil∧(Fo.cons n k .nil).bare∧(Fo.cons n k .nil).fit=true:=by
 have hb:=vH t.nodes t.nodes.length [t.root];have hf:=oY h t.nodes.length [t.root] (by intro k hk;simp at hk;subst hk;exact h.root) (Ov _);unfold foT;have hp:0<t.nodes.length:=by have:=h.root;omega
 obtain⟨f,hf'⟩:∃f,t.nodes.length=f+1:=⟨t.nodes.length - 1,by omega⟩
 rw[hf',aH,aA] at hb hf ⊢;exact⟨_,_,rfl,hb,hf⟩
theorem gO{t:Tre}(h:ax t):aC t t.root=aR (foT t):=mM h h.root.1 h.root.2
theorem p8{t:Tre}(h:ax t):ax (aR (foT t))∧foT (aR (foT t))=foT t:=by
 obtain⟨n,k,e,hb,hf⟩:=fX h;rw[e];exact⟨ak (jo hf),ku hb⟩
theorem Io{n m:Nod}{k j:Fo}(hb:(Fo.cons n k .nil).bare)(hb':(Fo.cons m j .nil).bare)(h:aR (.cons n k .nil)=aR (.cons m j .nil)):Fo.cons n k .nil=.cons m j .nil:=by
 rw[←ku hb,←ku hb',h]
theorem dF{t:Tre}(h:ax t):(foT t).size=t.nodes.length:=by
 unfold foT;rw[kH,(dc _ _ _).length_eq];exact(AV h).len
theorem Fo.tD:∀(F:Fo) (o d:Nat),(F.bX o).map (· + (d:Int))=F.bX (o+d)
 | nil,_,_=>rfl
 | cons n k r,o,d=>by
  simp only[bX,OB,tD r];rw[show o+d+k.size+1=o+k.size+1+d by omega]
  congr 1
  omega
theorem Fo.oW:∀(F:Fo) (o d:Nat),b8 (F.ar o) (d:Int)=F.ar (o+d)
 | nil,_,_=>rfl
 | cons n k r,o,d=>by
  have hk:=oW k o d;have hr:=oW r (o+k.size+1) d;simp only[b8] at hk hr;simp only[b8,ar,List.map_append,OB,hk,hr,tD];rw[show o+d+k.size+1=o+k.size+1+d by omega]
theorem Fo.AG:∀(F G:Fo) (o:Nat),(F.app G).ar o=F.ar o++G.ar (o+F.size)
 | nil,_,_=>by simp[app,ar,size]
 | cons n k r,G,o=>by
  simp only[app,ar,AG r G,size,List.append_assoc,List.cons_append];rw[show o+(k.size+1+r.size)=o+k.size+1+r.size by omega]
theorem Fo.tv:∀(F G:Fo) (o:Nat),(F.app G).bX o=F.bX o++G.bX (o+F.size)
 | nil,_,_=>by simp[app,bX,size]
 | cons n k r,G,o=>by
  simp only[app,bX,tv r G,size,List.cons_append];rw[show o+(k.size+1+r.size)=o+k.size+1+r.size by omega]
theorem Fo.eo:∀(F G:Fo),(F.app G).size=F.size+G.size
 | nil,_=>by simp[app,size]
 | cons n k r,G=>by simp only[app,size,eo r G];omega
theorem Fo.mT:∀(F G:Fo),(F.app G).len=F.len+G.len
 | nil,_=>by simp[app,len]
 | cons n k r,G=>by simp only[app,len,mT r G];omega
theorem Fo.Dt:∀(F G:Fo),(F.app G).fit=(F.fit&&G.fit)
 | nil,_=>by simp[app,fit]
 | cons n k r,G=>by simp only[app,fit,Dt r G,Bool.and_assoc]
theorem Fo.yH:∀(F G:Fo),(F.app G).bare↔F.bare∧G.bare
 | nil,_=>by simp[app,bare]
 | cons n k r,G=>by simp only[app,bare,yH r G,and_assoc]
def foL:List Tre→Fo
 | []=>.nil
 | t :: l=>(foT t).app (foL l)
theorem CY:∀(l:List Tre) (F:Fo),(∀t∈l,ao t=true)→jQ l (F.ar 0) (F.bX 0)=some ((F.app (foL l)).ar 0,(F.app (foL l)).bX 0)
 | [],F,_=>by
  have e:∀F:Fo,F.app .nil=F:=by
   intro F
   induction F with
   | nil=>rfl
   | cons n k r _ ih=>rw[Fo.app,ih]
  simp[jQ,foL,e]
 | t :: l,F,h=>by
  have ht:=h t (by simp);have hT:=ak ht;obtain⟨n,k,e,hb,hf⟩:=fX hT;have e1:F.ar 0++b8 (aC t t.root).nodes ((F.ar 0).length)=(F.app (foT t)).ar 0:=by
   rw[gO hT,Fo.AG,Fo.cT]
   congr 1
   exact Fo.oW _ 0 _
  have e2:F.bX 0++[(((F.ar 0).length+(aC t t.root).nodes.length:Nat):Int) - 1]=(F.app (foT t)).bX 0:=by
   rw[gO hT,Fo.tv,Fo.cT]
   congr 1
   simp only[aR,Fo.cT,e,Fo.bX,Fo.size]
   congr 1
   omega
  have ea:∀F G H:Fo,(F.app G).app H=F.app (G.app H):=by
   intro F G H
   induction F with
   | nil=>rfl
   | cons n k r _ ih=>simp only[Fo.app,ih]
  rw[jQ,if_pos ht,e1,e2,CY l _ (fun x hx=>h x (by simp[hx])),foL,ea]
theorem wq:∀(l:List Tre) (a:List Nod) (ks:List Int),(¬∀t∈l,ao t=true)→jQ l a ks=none
 | [],_,_,h=>absurd (by simp) h
 | t :: l,a,ks,h=>by
  unfold jQ
  split
  ·rename_i ht;refine wq l _ _ (fun h2=>h fun x hx=>?_);rcases OD.1 hx with rfl|hx
   ·exact ht
   ·exact h2 x hx
  ·rfl
theorem oL{n:Nod}{l:List Tre}(hf:fits n l.length=true)(h:∀t∈l,ao t=true):ofP n l=(aR (.cons { n with kids:=[] } (foL l) .nil),true):=by
 have hg:=CY l .nil h;simp only[Fo.ar,Fo.bX,Fo.app] at hg;unfold ofP;rw[if_pos hf,hg];simp only[aR,Fo.ar,Fo.size,Fo.cT]
 congr 2
 omega
theorem x6{n:Nod}{l:List Tre}(h:¬(fits n l.length=true∧∀t∈l,ao t=true)):ofP n l=(.zero,false):=by
 unfold ofP
 split
 ·rename_i hf;rw[wq l [] [] (fun h2=>h ⟨hf,h2⟩)]
 ·rfl
theorem x8:∀(l:List Tre),(∀t∈l,ao t=true)→(foL l).len=l.length∧(foL l).fit=true∧(foL l).bare
 | [],_=>⟨rfl,rfl,trivial⟩
 | t :: l,h=>by
  obtain⟨n,k,e,hb,hf⟩:=fX (ak (h t (by simp)));obtain⟨h1,h2,h3⟩:=x8 l (fun x hx=>h x (by simp[hx]));rw[foL,Fo.mT,Fo.Dt,Fo.yH,e,h1,h2];exact⟨by simp[Fo.len];omega,by rw[hf];rfl,hb,h3⟩
theorem Eb{n:Nod}{l:List Tre}(hf:fits n l.length=true)(h:∀t∈l,ao t=true) :
  ax (ofP n l).1∧foT (ofP n l).1=.cons { n with kids:=[] } (foL l) .nil∧(ofP n l).2=true:=by
 obtain⟨h1,h2,h3⟩:=x8 l h;rw[oL hf h];refine⟨ak (jo ?_),ku ⟨rfl,h3,trivial⟩,rfl⟩;simp only[Fo.fit,h1,h2,Qw];exact hf
theorem Gl{a b:Tre}:j9 a b=true↔ax a∧ax b∧foT a=foT b:=by
 unfold j9;simp only[Oi,decide_eq_true_eq,bG]
 constructor
 ·rintro⟨⟨⟨h1,h2⟩,h3⟩,h4⟩
  refine⟨h2,h3,?_⟩;rw[gO h2,gO h3] at h4;obtain⟨n,k,e,hb,hf⟩:=fX h2;obtain⟨m,j,e',hb',hf'⟩:=fX h3;rw[e,e'] at h4 ⊢;refine Io hb hb' ?_;have hs:(Fo.cons n k .nil).size=(Fo.cons m j .nil).size:=by
   have h5:=congrArg List.length h4;simpa [aR,Fo.cT] using h5
  simp only[aR] at h4 ⊢;rw[h4,hs]
 ·rintro⟨h2,h3,h4⟩
  refine⟨⟨⟨?_,h2⟩,h3⟩,by rw[gO h2,gO h3,h4]⟩;rw[←dF h2,←dF h3,h4]
def eX:Nat:=17592186044416
def b9:Nat:=1466015503701
def Bts.wf(b:Bts):Prop:=(0≤b.a∧b.a<18446744073709551616)∧(0≤b.b∧b.b<18446744073709551616)∧(0≤b.c∧b.c<18446744073709551616)∧(0≤b.d∧b.d<18446744073709551616)
def BA(xs:List Int):Prop:=xs.length≤eX∧∀x∈xs,I64 x
structure Nod.wf(n:Nod):Prop where
 kind:0≤n.kind∧n.kind≤255
 set:n.set.wf
 text:n.text.size≤140737488355328
 min:I64 n.min
 max:I64 n.max
 kids:BA n.kids
structure Tre.wf(t:Tre):Prop where
 len:t.nodes.length≤b9
 nodes:∀n∈t.nodes,n.wf
 root:I64 t.root
theorem Nod.aV:Nod.zero.wf:=⟨by decide,by unfold Bts.wf;decide,by decide,by unfold I64;decide,by unfold I64;decide,⟨by decide,by simp[Nod.zero]⟩⟩
theorem tt{ns:List Nod}(hn:∀n∈ns,n.wf):∀(l:List Int) (i:Nat) (pl:List Int),(∀x∈pl,0≤x∧x<(b9:Int))→i+l.length≤b9→∀n∈bo ns i pl l,n.wf∧∀k∈n.kids,0≤k∧k<(b9:Int)
 | [],_,_,_,_,n,h=>by simp[bo] at h
 | k :: l,i,pl,hp,hi,n,h=>by
  simp only[Og] at hi;have hp':∀x∈pl.set k.toNat (i:Int),0≤x∧x<(b9:Int):=by
   intro x hx;rcases PI hx with hx|rfl
   ·exact hp x hx
   ·omega
  simp only[bo,OD] at h;rcases h with rfl|h
  ·have hz:(ns.getD k.toNat .zero).wf:=by
    rw[List.getD_eq_getElem?_getD]
    cases hg:ns[k.toNat]? with
    | some m=>exact hn m (OI hg)
    | none=>exact Nod.aV
   have hk:∀y∈(ns.getD k.toNat .zero).kids.map (fun x=>(pl.set k.toNat (i:Int)).getD x.toNat 0),0≤y∧y<(b9:Int):=by
    intro y hy;obtain⟨x,hx,rfl⟩:=Pq.1 hy;rw[List.getD_eq_getElem?_getD]
    cases hg:(pl.set k.toNat (i:Int))[x.toNat]? with
    | some z=>exact hp' z (OI hg)
    | none=>exact⟨by decide,by decide⟩
   exact⟨⟨hz.kind,hz.set,hz.text,hz.min,hz.max,by simpa using hz.kids.1,fun y hy=>by have:=hk y hy;unfold I64;unfold b9 at this;omega⟩,hk⟩
  ·exact tt hn l (i+1) _ hp' (by omega) n h
theorem je{t:Tre}(ht:t.wf)(h:ax t){node:Int}(h0:0≤node)(hn:node<t.nodes.length):(aC t node).wf∧∀n∈(aC t node).nodes,∀k∈n.kids,0≤k∧k<(b9:Int):=by
 have hb:=fP h h0 hn;have hl:=ht.len;have hw:=tt ht.nodes (aU t node) 0 (List.replicate t.nodes.length 0) (fun x hx=>by rw[QX hx];exact⟨by decide,by decide⟩) (by omega);refine⟨⟨?_,fun n hn=>(hw n hn).1,?_⟩,fun n hn=>(hw n hn).2⟩
 ·show(bo _ _ _ _).length≤b9
  rw[jf];omega
 ·show I64 (((aU t node).length:Int) - 1)
  unfold b9 at hl;unfold I64;omega
theorem jz{t:Tre}(h:ax t){node:Int}(h0:0≤node)(hn:node<t.nodes.length):(aC t node).nodes.length≤t.nodes.length:=by
 show(bo _ _ _ _).length≤_
 rw[jf];exact fP h h0 hn
def tot(l:List Tre):Nat:=(l.map fun t=>t.nodes.length).sum
theorem fE(t:Tre)(l:List Tre):tot (t :: l)=t.nodes.length+tot l:=by simp[tot]
theorem bH{l:List Tre}{t:Tre}(h:t∈l):t.nodes.length≤tot l:=by
 induction l with
 | nil=>cases h
 | cons x l ih=>
  rw[fE];rcases OD.1 h with rfl|h
  ·omega
  ·have:=ih h;omega
theorem Nod.eq_iff{n m:Nod}:n=m↔n.kind=m.kind∧n.set=m.set∧n.text=m.text∧n.min=m.min∧n.max=m.max∧n.kids=m.kids:=by
 cases n;cases m;simp
theorem IY{α:Type}(D r:List α)(d d':α){i:Nat}(h:D.length=i):(D++d :: r).set i d'=D++d' :: r:=by
 subst h;rw[PF _ _ (Ov _),Pt,P7]
theorem Fo.xn:∀F:Fo,0≤F.depth
 | nil=>Int.le_refl _
 | cons n k r=>by
  have:=xn r;simp only[depth];omega
theorem Hg(ns:List Nod)(f:Nat)(k:Int)(l:List Int):aF ns (f+1) (k :: l)=(aF ns (f+1) [k]).app (aF ns (f+1) l):=by
 rw[aH,aH,aA];rfl
def Fo.dwf:Fo→Prop
 | nil=>True
 | cons n k r=>({ n with kids:=[] }:Nod).wf∧k.dwf∧r.dwf
theorem Fo.iV:∀F G:Fo,(F.app G).dwf↔F.dwf∧G.dwf
 | nil,G=>by simp[app,dwf]
 | cons n k r,G=>by simp only[app,dwf,iV r G,and_assoc]
theorem Fo.oE:∀F:Fo,F.len≤F.size
 | nil=>Ov _
 | cons n k r=>by have:=oE r;simp only[len,size];omega
theorem Fo.FT:∀(F:Fo) (o:Nat),F.dwf→o+F.size≤b9→∀n∈F.ar o,n.wf
 | nil,o,_,_,n,h=>by simp[ar] at h
 | cons n k r,o,hd,hs,m,h=>by
  obtain⟨h1,h2,h3⟩:=hd;simp only[size] at hs;simp only[ar,Oy,OD] at h;rcases h with h|rfl|h
  ·exact FT k o h2 (by omega) m h
  ·refine⟨h1.kind,h1.set,h1.text,h1.min,h1.max,?_,fun x hx=>?_⟩
   ·rw[kh];have:=oE k;unfold b9 at hs;unfold eX;omega
   ·have:=tP k o x hx;unfold b9 at hs;unfold I64;omega
  ·exact FT r _ h3 (by omega) m h
theorem Nod.wf.wf0{n:Nod}(h:n.wf):({ n with kids:=[] }:Nod).wf:=⟨h.kind,h.set,h.text,h.min,h.max,⟨by simp,by simp⟩⟩
theorem eS{ns:List Nod}(hn:∀n∈ns,n.wf):∀(f:Nat) (l:List Int),(aF ns f l).dwf
 | 0,l=>trivial
 | f+1,l=>by
  induction l with
  | nil=>exact trivial
  | cons k l ih=>
   refine⟨?_,eS hn f _,ih⟩;show Nod.wf { ns.getD k.toNat .zero with kids:=[] }
   rw[List.getD_eq_getElem?_getD]
   cases hg:ns[k.toNat]? with
   | some m=>exact(hn m (OI hg)).wf0
   | none=>exact Nod.aV.wf0
theorem se:∀{l:List Tre},(∀t∈l,t.wf)→(foL l).dwf
 | [],_=>trivial
 | t :: l,h=>(Fo.iV _ _).2 ⟨eS (h t (by simp)).nodes _ _,se fun x hx=>h x (by simp[hx])⟩
theorem jI:∀{l:List Tre},(∀t∈l,ao t=true)→(foL l).size=tot l
 | [],_=>rfl
 | t :: l,h=>by rw[foL,Fo.eo,fE,dF (ak (h t (by simp))),jI fun x hx=>h x (by simp[hx])]
theorem lr{F:Fo}(h:F.dwf)(hs:F.size≤b9):(aR F).wf:=by
 refine⟨by show(F.ar 0).length≤b9;rw[Fo.cT];exact hs,Fo.FT F 0 h (by omega),?_⟩;show I64 ((F.size:Int) - 1)
 unfold b9 at hs;unfold I64;omega
theorem Tre.aV:Tre.zero.wf:=⟨by decide,by simp[Tre.zero],by unfold I64;decide⟩
theorem Ci{n:Nod}{l:List Tre}(hn:n.wf)(hl:∀t∈l,t.wf)(ht:tot l+1≤b9):(ofP n l).1.wf:=by
 by_cases h:fits n l.length=true∧∀t∈l,ao t=true
 ·rw[oL h.1 h.2];refine lr ⟨hn.wf0,se hl,trivial⟩ ?_;simp only[Fo.size,jI h.2];omega
 ·rw[x6 h];exact Tre.aV
theorem Ds{n:Nod}{l:List Tre}:(ofP n l).1.nodes.length≤tot l+1:=by
 by_cases h:fits n l.length=true∧∀t∈l,ao t=true
 ·rw[oL h.1 h.2];show(Fo.ar 0 _).length≤_
  rw[Fo.cT];simp only[Fo.size,jI h.2];omega
 ·rw[x6 h];exact Oq _
theorem wD:dB.wf:=⟨by decide,by unfold Bts.wf;decide,by decide,by unfold I64;decide,by unfold I64;decide,⟨by decide,by simp[dB]⟩⟩
theorem jE{t:Tre}(h:ao t=true):aW t=aC t t.root:=by unfold aW;rw[if_pos h]
theorem kE{t:Tre}(h:ao t=false):aW t=.zero:=by unfold aW;rw[if_neg (by rw[h];simp)]
theorem eQ{t:Tre}(h:ao t=true):aW t=aR (foT t):=by rw[jE h,gO (ak h)]
theorem Ap(t:Tre):ao (aW t)=ao t:=by
 cases h:ao t with
 | false=>rw[kE h];rfl
 | true=>rw[eQ h];exact bG.2 (p8 (ak h)).1
theorem wu{t:Tre}(h:t.wf):(aW t).wf:=by
 cases hr:ao t with
 | false=>rw[kE hr];exact⟨by simp[Tre.zero],by simp[Tre.zero],by simp[Tre.zero,I64]⟩
 | true=>
  have hR:=ak hr;rw[jE hr];exact(je h hR hR.root.1 hR.root.2).1
def av(t:Tre):Nod:=if ao t=true then { t.nodes.getD t.root.toNat .zero with kids:=[] } else .zero
def Fo.trees:Fo→List Tre
 | .nil=>[]
 | .cons m j r=>aR (.cons m j .nil) :: r.trees
def Fo.MD:Fo→List Tre
 | .nil=>[]
 | .cons _ k _=>k.trees
def ae(t:Tre):List Tre:=if ao t=true then (foT t).MD else []
theorem Fo.Db:∀F:Fo,F.app .nil=F
 | .nil=>rfl
 | .cons m j r=>by rw[Fo.app,Fo.Db r]
theorem Fo.m4:∀F G H:Fo,(F.app G).app H=F.app (G.app H)
 | .nil,G,H=>rfl
 | .cons m j r,G,H=>by simp only[Fo.app,Fo.m4 r G H]
theorem Fo.zB:∀F:Fo,F.len≤F.size
 | .nil=>Ov _
 | .cons m j r=>by have:=Fo.zB r;simp only[Fo.len,Fo.size];omega
theorem Fo.fe:∀(F G:Fo),(F.app G).trees=F.trees++G.trees
 | .nil,G=>rfl
 | .cons m j r,G=>by simp[Fo.app,Fo.trees,Fo.fe r G]
theorem Fo.bq:∀(F:Fo),F.trees.length=F.len
 | .nil=>rfl
 | .cons m j r=>by simp[Fo.trees,Fo.len,Fo.bq r]
def me(l:List Tre):Bool:=l.all fun t=>ao t
theorem eI{l:List Tre}:me l=true↔∀t∈l,ao t=true:=by simp[me]
theorem K7(n:Nod)(l:List Tre):(ofP n l).2=(fits n l.length&&me l):=by
 by_cases h:fits n l.length=true∧∀t∈l,ao t=true
 ·rw[oL h.1 h.2,h.1,eI.2 h.2];rfl
 ·rw[x6 h]
  cases h1:fits n l.length with
  | false=>rfl
  | true=>
   cases h2:me l with
   | false=>rfl
   | true=>exact absurd ⟨h1,eI.1 h2⟩ h
theorem CC{t:Tre}(h:ao t=true):∃F,foT t=.cons (av t) F .nil:=by
 have hR:=ak h;have h0:=hR.root;obtain⟨N,hN⟩:∃N,t.nodes.length=N+1:=⟨t.nodes.length - 1,by omega⟩
 refine⟨aF t.nodes N (ah t.nodes t.root),?_⟩;unfold foT;rw[hN,aH,aA,av,if_pos h];rfl
theorem ct:∀{F:Fo},F.fit=true→F.bare→(∀t∈F.trees,ao t=true)∧foL F.trees=F
 | .nil,_,_=>⟨by simp[Fo.trees],rfl⟩
 | .cons m j r,hf,hb=>by
  simp only[Fo.fit,Oi] at hf;obtain⟨h1,h2⟩:=ct (F:=r) hf.2 hb.2.2;have hr:ao (aR (.cons m j .nil))=true:=jo (by simp only[Fo.fit,hf.1.1,hf.1.2];rfl);refine⟨fun t ht=>?_,?_⟩
  ·rcases OD.1 ht with rfl|ht
   ·exact hr
   ·exact h1 t ht
  ·rw[Fo.trees,foL,h2,ku ⟨hb.1,hb.2.1,trivial⟩];rfl
theorem dp{t:Tre}(h:t.wf):∀x∈ae t,x.wf:=by
 intro x hx
 cases hr:ao t with
 | false=>rw[ae,if_neg (by rw[hr];simp)] at hx;simp at hx
 | true=>
  obtain⟨n,k,e,hb,hf⟩:=fX (ak hr);have hsz:=dF (ak hr);have hd:(foT t).dwf:=eS h.nodes _ _;have hl:=h.len;rw[e] at hsz hd;simp only[Fo.size] at hsz;rw[ae,if_pos hr,e] at hx;have key:∀F:Fo,F.dwf→F.size≤b9→∀x∈F.trees,x.wf:=by
   intro F
   induction F with
   | nil=>intro _ _ x hx;simp[Fo.trees] at hx
   | cons m j r _ ih=>
    intro hd hs x hx;simp only[Fo.size] at hs;rcases OD.1 hx with rfl|hx
    ·exact lr ⟨hd.1,hd.2.1,trivial⟩ (by simp only[Fo.size];omega)
    ·exact ih hd.2.2 (by omega) x hx
  exact key k hd.2.1 (by omega) x hx
theorem bu(t:Tre):tot (ae t)≤t.nodes.length - 1∧(ae t).length≤t.nodes.length:=by
 cases hr:ao t with
 | false=>rw[ae,if_neg (by rw[hr];simp)];simp[tot]
 | true=>
  obtain⟨n,k,e,hb,hf⟩:=fX (ak hr);have hsz:=dF (ak hr);simp only[Fo.fit,Oi] at hf;obtain⟨h1,h2⟩:=ct (F:=k) hf.1.2 hb.2.1;have h3:=jI h1;have h4:=Fo.oE k;rw[h2] at h3;rw[e] at hsz;simp only[Fo.size] at hsz;rw[ae,if_pos hr,e];show tot k.trees≤_∧k.trees.length≤_
  rw[←h3,Fo.bq];omega
theorem iu{t:Tre}(h:t.wf):(av t).wf:=by
 unfold av
 split
 ·rw[List.getD_eq_getElem?_getD]
  cases hg:t.nodes[t.root.toNat]? with
  | some m=>exact(h.nodes m (OI hg)).wf0
  | none=>exact Nod.aV.wf0
 ·exact Nod.aV
def b5:Nod:=⟨4,.zero,⟨#[]⟩,0,0,[]⟩
def en:Nod:=⟨5,.zero,⟨#[]⟩,0,0,[]⟩
def iM:Nod:=⟨1,.zero,⟨#[]⟩,0,0,[]⟩
theorem dg{m:Nod}{c:Int}(h:fits m c=true)(hk:m.kind=4)(hb:m.kids=[]):m=b5∧2≤c:=by
 obtain⟨k,s,t,a,b,l⟩:=m;simp only at hk hb;subst hk;subst hb;simp[fits] at h;obtain⟨⟨⟨⟨h1,h2⟩,h3⟩,h4⟩,h5⟩:=h;subst h1;subst h2;subst h3;subst h4;exact⟨rfl,h5⟩
theorem dd{m:Nod}{c:Int}(h:fits m c=true)(hk:m.kind=5)(hb:m.kids=[]):m=en∧2≤c:=by
 obtain⟨k,s,t,a,b,l⟩:=m;simp only at hk hb;subst hk;subst hb;simp[fits] at h;obtain⟨⟨⟨⟨h1,h2⟩,h3⟩,h4⟩,h5⟩:=h;subst h1;subst h2;subst h3;subst h4;exact⟨rfl,h5⟩
def Fo.opn(k:Int):Fo→Fo
 | .nil=>.nil
 | .cons m j r=>if m.kind=k then j.app (r.opn k) else .cons m j (r.opn k)
def Fo.cJ:Fo→Fo
 | .nil=>.nil
 | .cons m j r=>if m.kind=0 then r.cJ else .cons m j r.cJ
def Fo.join(m e:Nod):Fo→Fo
 | .nil=>.cons e .nil .nil
 | .cons a b .nil=>.cons a b .nil
 | p=>.cons m p .nil
def Fo.nrm:Fo→Fo
 | .nil=>.nil
 | .cons m j r=>(if m.kind=4 then Fo.join m dB j.nrm.cJ else if m.kind=5 then Fo.join m iM j.nrm else .cons m j.nrm .nil).app r.nrm
def Fo.opF:Fo→Fo
 | .nil=>.nil
 | .cons m j r=>.cons m (if m.kind=4∨m.kind=5 then j.opF.opn m.kind else j.opF) r.opF
def Fo.put(m:Nod)(K:Fo):Fo:=
 if m.kind=4 then Fo.join m dB (K.cJ.opn 4) else if m.kind=5 then Fo.join m iM (K.opn 5) else .cons m K .nil
def Fo.norm:Fo→Fo
 | .nil=>.nil
 | .cons m j r=>(Fo.put m j.norm).app r.norm
def Fo.noK(k:Int):Fo→Prop
 | .nil=>True
 | .cons m _ r=>m.kind≠k∧r.noK k
def Fo.ok:Fo→Prop
 | .nil=>True
 | .cons m j r=>(m.kind=4→j.noK 4∧j.noK 0)∧(m.kind=5→j.noK 5)∧j.ok∧r.ok
theorem Fo.nV:∀F:Fo,F.app .nil=F
 | .nil=>rfl
 | .cons m j r=>by rw[Fo.app,Fo.nV r]
theorem Fo.zJ:∀F G H:Fo,(F.app G).app H=F.app (G.app H)
 | .nil,_,_=>rfl
 | .cons m j r,G,H=>by simp only[Fo.app,Fo.zJ r G H]
theorem Fo.Dv(k:Int):∀F G:Fo,(F.app G).opn k=(F.opn k).app (G.opn k)
 | .nil,_=>rfl
 | .cons m j r,G=>by
  simp only[Fo.app,Fo.opn]
  split
  ·rw[Fo.Dv k r G,Fo.zJ]
  ·rw[Fo.Dv k r G,Fo.app]
theorem Fo.qc:∀F G:Fo,(F.app G).cJ=F.cJ.app G.cJ
 | .nil,_=>rfl
 | .cons m j r,G=>by
  simp only[Fo.app,Fo.cJ]
  split
  ·exact Fo.qc r G
  ·rw[Fo.qc r G,Fo.app]
theorem Fo.sF:∀F G:Fo,(F.app G).opF=F.opF.app G.opF
 | .nil,_=>rfl
 | .cons m j r,G=>by simp only[Fo.app,Fo.opF,Fo.sF r G]
theorem Fo.C7:∀F G:Fo,(F.app G).nrm=F.nrm.app G.nrm
 | .nil,_=>rfl
 | .cons m j r,G=>by simp only[Fo.app,Fo.nrm,Fo.C7 r G,Fo.zJ]
theorem Fo.z6:∀F G:Fo,(F.app G).norm=F.norm.app G.norm
 | .nil,_=>rfl
 | .cons m j r,G=>by simp only[Fo.app,Fo.norm,Fo.z6 r G,Fo.zJ]
theorem Fo.sx(k:Int):∀F G:Fo,(F.app G).noK k↔F.noK k∧G.noK k
 | .nil,_=>by simp[Fo.app,Fo.noK]
 | .cons m j r,G=>by simp only[Fo.app,Fo.noK,Fo.sx k r G,and_assoc]
theorem Fo.BN:∀F G:Fo,(F.app G).ok↔F.ok∧G.ok
 | .nil,_=>by simp[Fo.app,Fo.ok]
 | .cons m j r,G=>by simp only[Fo.app,Fo.ok,Fo.BN r G,and_assoc]
theorem Fo.BK:∀F G:Fo,(F.app G).len=F.len+G.len
 | .nil,_=>by simp[Fo.app,Fo.len]
 | .cons m j r,G=>by simp only[Fo.app,Fo.len,Fo.BK r G];omega
theorem Fo.MB:∀F G:Fo,(F.app G).fit=(F.fit&&G.fit)
 | .nil,_=>by simp[Fo.app,Fo.fit]
 | .cons m j r,G=>by simp only[Fo.app,Fo.fit,Fo.MB r G,Bool.and_assoc]
theorem Fo.Ka:∀F G:Fo,(F.app G).bare↔F.bare∧G.bare
 | .nil,_=>by simp[Fo.app,Fo.bare]
 | .cons m j r,G=>by simp only[Fo.app,Fo.bare,Fo.Ka r G,and_assoc]
theorem Fo.qE:∀F:Fo,F.cJ.opF=F.opF.cJ
 | .nil=>rfl
 | .cons m j r=>by
  simp only[Fo.cJ,Fo.opF]
  split
  ·exact Fo.qE r
  ·rw[Fo.opF,Fo.qE r]
theorem Fo.kZ:∀F:Fo,F.opF.len=F.len
 | .nil=>rfl
 | .cons m j r=>by simp only[Fo.opF,Fo.len,Fo.kZ r]
theorem Fo.cP(m e:Nod)(p:Fo):(p=.nil∧Fo.join m e p=.cons e .nil .nil)∨(∃a b,p=.cons a b .nil∧Fo.join m e p=.cons a b .nil)∨(2≤p.len∧Fo.join m e p=.cons m p .nil):=by
 match p with
 | .nil=>exact .inl ⟨rfl,rfl⟩
 | .cons a b .nil=>exact .inr (.inl ⟨a,b,rfl,rfl⟩)
 | .cons a b (.cons c d r)=>exact .inr (.inr ⟨by simp[Fo.len],rfl⟩)
theorem Fo.eu(m e:Nod){p:Fo}(h:2≤p.len):Fo.join m e p=.cons m p .nil:=by
 rcases Fo.cP m e p with ⟨rfl,_⟩|⟨a,b,rfl,_⟩|⟨_,h2⟩
 ·simp[Fo.len] at h
 ·simp[Fo.len] at h
 ·exact h2
theorem rm:fits dB 0=true:=by decide +kernel
theorem uA:fits iM 0=true:=by decide +kernel
theorem jm{c:Int}(h:2≤c):fits b5 c=true:=by simp[fits,b5,h]
theorem jD{c:Int}(h:2≤c):fits en c=true:=by simp[fits,en,h]
def Fo.fb(F:Fo):Prop:=F.fit=true∧F.bare
theorem Fo.aL{m:Nod}{j r:Fo}:(Fo.cons m j r).fb↔(fits m j.len=true∧m.kids=[]∧j.fb)∧r.fb:=by
 simp only[Fo.fb,Fo.fit,Fo.bare,Oi]
 constructor
 ·rintro⟨⟨⟨a,b⟩,c⟩,d,e,f⟩;exact⟨⟨a,d,b,e⟩,c,f⟩
 ·rintro⟨⟨a,d,b,e⟩,c,f⟩;exact⟨⟨⟨a,b⟩,c⟩,d,e,f⟩
theorem Fo.fN:Fo.nil.fb:=⟨rfl,trivial⟩
theorem Fo.lu{F G:Fo}:(F.app G).fb↔F.fb∧G.fb:=by
 simp only[Fo.fb,Fo.MB,Fo.Ka,Oi]
 constructor
 ·rintro⟨⟨a,b⟩,c,d⟩;exact⟨⟨a,c⟩,b,d⟩
 ·rintro⟨⟨a,c⟩,b,d⟩;exact⟨⟨a,b⟩,c,d⟩
theorem Fo.kK:∀{F:Fo},F.fb→F.cJ.fb
 | .nil,h=>h
 | .cons m j r,h=>by
  have h':=Fo.aL.1 h;simp only[Fo.cJ]
  split
  ·exact Fo.kK h'.2
  ·exact Fo.aL.2 ⟨h'.1,Fo.kK h'.2⟩
theorem Fo.oD{k:Int}:∀{F:Fo},F.fb→(F.opn k).fb
 | .nil,h=>h
 | .cons m j r,h=>by
  have h':=Fo.aL.1 h;simp only[Fo.opn]
  split
  ·exact Fo.lu.2 ⟨h'.1.2.2,Fo.oD h'.2⟩
  ·exact Fo.aL.2 ⟨h'.1,Fo.oD h'.2⟩
theorem Fo.sh{m e:Nod}{p:Fo}(hp:p.fb)(he:fits e 0=true∧e.kids=[])(hm:2≤p.len→fits m p.len=true)(hb:m.kids=[]):(Fo.join m e p).fb:=by
 rcases Fo.cP m e p with ⟨rfl,h⟩|⟨a,b,rfl,h⟩|⟨h2,h⟩
 ·rw[h];exact Fo.aL.2 ⟨⟨he.1,he.2,Fo.fN⟩,Fo.fN⟩
 ·rw[h];exact hp
 ·rw[h];exact Fo.aL.2 ⟨⟨hm h2,hb,hp⟩,Fo.fN⟩
theorem Fo.pK(m e:Nod)(p:Fo):(Fo.join m e p).len=1:=by
 rcases Fo.cP m e p with ⟨_,h⟩|⟨a,b,_,h⟩|⟨_,h⟩<;>rw[h]<;>rfl
theorem Fo.CW:∀F:Fo,F.nrm.len=F.len
 | .nil=>rfl
 | .cons m j r=>by
  simp only[Fo.nrm,Fo.BK,Fo.CW r,Fo.len]
  split
  ·rw[Fo.pK];omega
  ·split
   ·rw[Fo.pK];omega
   ·simp[Fo.len];omega
theorem Fo.DN(m:Nod)(K:Fo):(Fo.put m K).len=1:=by
 unfold Fo.put
 split
 ·exact Fo.pK _ _ _
 ·split
  ·exact Fo.pK _ _ _
  ·rfl
theorem Fo.jt:∀F:Fo,F.norm.len=F.len
 | .nil=>rfl
 | .cons m j r=>by simp only[Fo.norm,Fo.BK,Fo.DN,Fo.jt r,Fo.len];omega
theorem Fo.BS:∀{F:Fo},F.fb→F.nrm.fb
 | .nil,h=>h
 | .cons m j r,h=>by
  obtain⟨⟨h1,h2,h3⟩,h4⟩:=Fo.aL.1 h;have ih:=Fo.BS h3;simp only[Fo.nrm];refine Fo.lu.2 ⟨?_,Fo.BS h4⟩
  split
  ·rename_i hk;obtain⟨rfl,_⟩:=dg h1 hk h2;exact Fo.sh (Fo.kK ih) ⟨rm,rfl⟩ (fun h=>jm (by omega)) rfl
  ·split
   ·rename_i hk;obtain⟨rfl,_⟩:=dd h1 hk h2;exact Fo.sh ih ⟨uA,rfl⟩ (fun h=>jD (by omega)) rfl
   ·exact Fo.aL.2 ⟨⟨by rw[Fo.CW];exact h1,h2,ih⟩,Fo.fN⟩
theorem Fo.pM:∀{F:Fo},F.fb→F.norm.fb
 | .nil,h=>h
 | .cons m j r,h=>by
  obtain⟨⟨h1,h2,h3⟩,h4⟩:=Fo.aL.1 h;have ih:=Fo.pM h3;simp only[Fo.norm];refine Fo.lu.2 ⟨?_,Fo.pM h4⟩;unfold Fo.put
  split
  ·rename_i hk;obtain⟨rfl,_⟩:=dg h1 hk h2;exact Fo.sh (Fo.oD (Fo.kK ih)) ⟨rm,rfl⟩ (fun h=>jm (by omega)) rfl
  ·split
   ·rename_i hk;obtain⟨rfl,_⟩:=dd h1 hk h2;exact Fo.sh (Fo.oD ih) ⟨uA,rfl⟩ (fun h=>jD (by omega)) rfl
   ·exact Fo.aL.2 ⟨⟨by rw[Fo.jt];exact h1,h2,ih⟩,Fo.fN⟩
theorem Fo.nh{k:Int}(hk:k=4∨k=5):∀{F:Fo},F.fb→F.len≤(F.opn k).len
 | .nil,_=>Ov _
 | .cons m j r,h=>by
  obtain⟨⟨h1,h2,h3⟩,h4⟩:=Fo.aL.1 h;have ih:=Fo.nh hk h4;simp only[Fo.opn]
  split
  ·rename_i hm;have:2≤(j.len:Int):=by
    rcases hk with rfl|rfl
    ·exact(dg h1 hm h2).2
    ·exact(dd h1 hm h2).2
   rw[Fo.BK];simp only[Fo.len];omega
  ·simp only[Fo.len];omega
theorem Fo.qX:∀{F:Fo},F.fb→F.opF.fb
 | .nil,h=>h
 | .cons m j r,h=>by
  obtain⟨⟨h1,h2,h3⟩,h4⟩:=Fo.aL.1 h;have ih:=Fo.qX h3;simp only[Fo.opF];refine Fo.aL.2 ⟨⟨?_,h2,?_⟩,Fo.qX h4⟩
  ·split
   ·rename_i hk;have hl:=Fo.nh hk ih;rw[Fo.kZ] at hl;rcases hk with hk|hk
    ·obtain⟨rfl,h⟩:=dg h1 hk h2;exact jm (by show(2:Int)≤((j.opF.opn 4).len:Int);have:j.len≤(j.opF.opn 4).len:=hl;omega)
    ·obtain⟨rfl,h⟩:=dd h1 hk h2;exact jD (by show(2:Int)≤((j.opF.opn 5).len:Int);have:j.len≤(j.opF.opn 5).len:=hl;omega)
   ·rw[Fo.kZ];exact h1
  ·split
   ·exact Fo.oD ih
   ·exact ih
theorem Fo.yb:∀{F:Fo},F.fb→F.nrm.opF=F.norm
 | .nil,_=>rfl
 | .cons m j r,h=>by
  obtain⟨⟨h1,h2,h3⟩,h4⟩:=Fo.aL.1 h;have ih:=Fo.yb h3;have ih2:=Fo.yb h4;have hfb:=Fo.BS h3;simp only[Fo.nrm,Fo.norm,Fo.sF,ih2]
  congr 1
  unfold Fo.put
  split
  ·rename_i hk;obtain⟨rfl,_⟩:=dg h1 hk h2;have hD:(j.nrm.cJ).opF=j.norm.cJ:=by rw[Fo.qE,ih]
   have hfd:=Fo.kK hfb;rw[←hD];generalize j.nrm.cJ=p at *;rcases Fo.cP b5 dB p with ⟨rfl,e⟩|⟨a,b,rfl,e⟩|⟨h2',e⟩
   ·rfl
   ·rw[e];obtain⟨⟨g1,g2,g3⟩,_⟩:=Fo.aL.1 hfd
    by_cases ha:a.kind=4
    ·obtain⟨rfl,hl⟩:=dg g1 ha g2;have hlen:=Fo.nh (.inl rfl:(4:Int)=4∨(4:Int)=5) (Fo.qX g3);rw[Fo.kZ] at hlen;have e1:(Fo.cons b5 b .nil).opF=.cons b5 (b.opF.opn 4) .nil:=rfl;rw[e1];have e2:(Fo.cons b5 (b.opF.opn 4) .nil).opn 4=b.opF.opn 4:=by
      show(if b5.kind=4 then (b.opF.opn 4).app .nil else _)=_
      rw[if_pos ha,Fo.nV]
     rw[e2,Fo.eu _ _ (by omega)]
    ·have e2:((Fo.cons a b .nil).opF).opn 4=(Fo.cons a b .nil).opF:=by
      simp only[Fo.opF,Fo.opn,if_neg ha]
     rw[e2];simp only[Fo.opF];rfl
   ·rw[e];have hl:=Fo.nh (.inl rfl:(4:Int)=4∨(4:Int)=5) (Fo.qX hfd);rw[Fo.kZ] at hl;rw[Fo.eu _ _ (by omega)];rfl
  ·split
   ·rename_i hk;obtain⟨rfl,_⟩:=dd h1 hk h2;rw[←ih];generalize j.nrm=p at *;rcases Fo.cP en iM p with ⟨rfl,e⟩|⟨a,b,rfl,e⟩|⟨h2',e⟩
    ·rfl
    ·rw[e];obtain⟨⟨g1,g2,g3⟩,_⟩:=Fo.aL.1 hfb
     by_cases ha:a.kind=5
     ·obtain⟨rfl,hl⟩:=dd g1 ha g2;have hlen:=Fo.nh (.inr rfl:(5:Int)=4∨(5:Int)=5) (Fo.qX g3);rw[Fo.kZ] at hlen;have e1:(Fo.cons en b .nil).opF=.cons en (b.opF.opn 5) .nil:=rfl;rw[e1];have e2:(Fo.cons en (b.opF.opn 5) .nil).opn 5=b.opF.opn 5:=by
       show(if en.kind=5 then (b.opF.opn 5).app .nil else _)=_
       rw[if_pos ha,Fo.nV]
      rw[e2,Fo.eu _ _ (by omega)]
     ·have e2:((Fo.cons a b .nil).opF).opn 5=(Fo.cons a b .nil).opF:=by
       simp only[Fo.opF,Fo.opn,if_neg ha]
      rw[e2];simp only[Fo.opF];rfl
    ·rw[e];have hl:=Fo.nh (.inr rfl:(5:Int)=4∨(5:Int)=5) (Fo.qX hfb);rw[Fo.kZ] at hl;rw[Fo.eu _ _ (by omega)];rfl
   ·rename_i hk4 hk5;simp only[Fo.opF];rw[if_neg (by rintro(h|h);exact hk4 h;exact hk5 h),ih]
theorem Fo.qb:∀F:Fo,F.cJ.noK 0
 | .nil=>trivial
 | .cons m j r=>by
  simp only[Fo.cJ]
  split
  ·exact Fo.qb r
  ·rename_i h;exact⟨h,Fo.qb r⟩
theorem Fo.Mh:∀{F:Fo},F.noK 0→F.cJ=F
 | .nil,_=>rfl
 | .cons m j r,h=>by
  simp only[Fo.cJ];rw[if_neg h.1,Fo.Mh h.2]
theorem Fo.Ll{k:Int}:∀{F:Fo},F.noK k→F.opn k=F
 | .nil,_=>rfl
 | .cons m j r,h=>by
  simp only[Fo.opn];rw[if_neg h.1,Fo.Ll h.2]
theorem Fo.oP:∀{F:Fo},F.ok→F.cJ.ok
 | .nil,h=>h
 | .cons m j r,h=>by
  simp only[Fo.cJ]
  split
  ·exact Fo.oP h.2.2.2
  ·exact⟨h.1,h.2.1,h.2.2.1,Fo.oP h.2.2.2⟩
theorem Fo.qR{k:Int}:∀{F:Fo},F.ok→(F.opn k).ok
 | .nil,h=>h
 | .cons m j r,h=>by
  simp only[Fo.opn]
  split
  ·exact(Fo.BN _ _).2 ⟨h.2.2.1,Fo.qR h.2.2.2⟩
  ·exact⟨h.1,h.2.1,h.2.2.1,Fo.qR h.2.2.2⟩
theorem Fo.uo:∀{F:Fo},F.ok→(F.opn 4).noK 4
 | .nil,_=>trivial
 | .cons m j r,h=>by
  simp only[Fo.opn]
  split
  ·rename_i hk;exact(Fo.sx _ _ _).2 ⟨(h.1 hk).1,Fo.uo h.2.2.2⟩
  ·rename_i hk;exact⟨hk,Fo.uo h.2.2.2⟩
theorem Fo.qm:∀{F:Fo},F.ok→F.noK 0→(F.opn 4).noK 0
 | .nil,_,_=>trivial
 | .cons m j r,h,h0=>by
  simp only[Fo.opn]
  split
  ·rename_i hk;exact(Fo.sx _ _ _).2 ⟨(h.1 hk).2,Fo.qm h.2.2.2 h0.2⟩
  ·exact⟨h0.1,Fo.qm h.2.2.2 h0.2⟩
theorem Fo.uV:∀{F:Fo},F.ok→(F.opn 5).noK 5
 | .nil,_=>trivial
 | .cons m j r,h=>by
  simp only[Fo.opn]
  split
  ·rename_i hk;exact(Fo.sx _ _ _).2 ⟨h.2.1 hk,Fo.uV h.2.2.2⟩
  ·rename_i hk;exact⟨hk,Fo.uV h.2.2.2⟩
theorem Fo.DO{e:Nod}(h4:e.kind≠4)(h5:e.kind≠5):(Fo.cons e .nil .nil).ok:=⟨fun h=>absurd h h4,fun h=>absurd h h5,trivial,trivial⟩
theorem Fo.sB:∀(F:Fo),F.norm.ok
 | .nil=>trivial
 | .cons m j r=>by
  have ih:=Fo.sB j;simp only[Fo.norm];refine(Fo.BN _ _).2 ⟨?_,Fo.sB r⟩;unfold Fo.put
  split
  ·rename_i hk;have hD:=Fo.oP ih;have h0:=Fo.qb j.norm;have hp:=Fo.qR (k:=4) hD;have h4:=Fo.uo hD;have h40:=Fo.qm hD h0;generalize (j.norm.cJ).opn 4=p at *;rcases Fo.cP m dB p with ⟨rfl,e⟩|⟨a,b,rfl,e⟩|⟨h2,e⟩<;>rw[e]
   ·exact Fo.DO (by decide) (by decide)
   ·exact hp
   ·exact⟨fun _=>⟨h4,h40⟩,fun h=>by omega,hp,trivial⟩
  ·split
   ·rename_i hk;have hp:=Fo.qR (k:=5) ih;have h5:=Fo.uV ih;generalize (j.norm).opn 5=p at *;rcases Fo.cP m iM p with ⟨rfl,e⟩|⟨a,b,rfl,e⟩|⟨h2,e⟩<;>rw[e]
    ·exact Fo.DO (by decide) (by decide)
    ·exact hp
    ·exact⟨fun h=>by omega,fun _=>h5,hp,trivial⟩
   ·rename_i h4 h5;exact⟨fun h=>absurd h h4,fun h=>absurd h h5,ih,trivial⟩
theorem Fo.DH:∀{F:Fo},F.fb→F.ok→F.norm=F
 | .nil,_,_=>rfl
 | .cons m j r,h,hk=>by
  obtain⟨⟨h1,h2,h3⟩,h4⟩:=Fo.aL.1 h;obtain⟨k4,k5,kj,kr⟩:=hk;simp only[Fo.norm];rw[Fo.DH h3 kj,Fo.DH h4 kr];have e:Fo.put m j=.cons m j .nil:=by
   unfold Fo.put
   split
   ·rename_i hm;obtain⟨rfl,hl⟩:=dg h1 hm h2;rw[Fo.Mh (k4 hm).2,Fo.Ll (k4 hm).1,Fo.eu _ _ (by omega)]
   ·split
    ·rename_i hm;obtain⟨rfl,hl⟩:=dd h1 hm h2;rw[Fo.Ll (k5 hm),Fo.eu _ _ (by omega)]
    ·rfl
  rw[e];rfl
theorem Fo.km{k:Int}:∀F:Fo,(F.opn k).size≤F.size
 | .nil=>Ov _
 | .cons m j r=>by
  have:=Fo.km (k:=k) r;simp only[Fo.opn]
  split
  ·rw[Fo.eo];simp only[Fo.size];omega
  ·simp only[Fo.size];omega
theorem Fo.nY:∀F:Fo,F.cJ.size≤F.size
 | .nil=>Ov _
 | .cons m j r=>by
  have:=Fo.nY r;simp only[Fo.cJ]
  split<;>simp only[Fo.size]<;>omega
theorem Fo.ny(m e:Nod)(p:Fo):(Fo.join m e p).size≤p.size+1:=by
 rcases Fo.cP m e p with ⟨rfl,h⟩|⟨a,b,rfl,h⟩|⟨_,h⟩<;>rw[h]<;>simp only[Fo.size]<;>omega
theorem Fo.fc:∀F:Fo,F.norm.size≤F.size
 | .nil=>Ov _
 | .cons m j r=>by
  have h1:=Fo.fc j;have h2:=Fo.fc r;have h3:(Fo.put m j.norm).size≤j.norm.size+1:=by
   unfold Fo.put
   split
   ·exact OA (Fo.ny _ _ _) (by have:=Fo.km (k:=4) j.norm.cJ;have:=Fo.nY j.norm;omega)
   ·split
    ·exact OA (Fo.ny _ _ _) (by have:=Fo.km (k:=5) j.norm;omega)
    ·simp only[Fo.size];omega
  simp only[Fo.norm,Fo.eo,Fo.size];omega
def dU(t:Tre):Tre×Bool:=if ao t=true then (aR (foT t).norm,true) else (.zero,false)
theorem Ia{ns xs:List Nod}{k:Int}(h0:0≤k)(h:k<ns.length):(ns++xs).getD k.toNat .zero=ns.getD k.toNat .zero:=by
 rw[List.getD_eq_getElem?_getD,List.getD_eq_getElem?_getD,O6 (by omega)]
theorem zG{ns xs:List Nod}{k:Int}(h:k<ns.length):ah (ns++xs) k=ah ns k:=by
 unfold ah
 by_cases h0:k<0
 ·rw[if_pos h0,if_pos h0]
 ·rw[if_neg h0,if_neg h0];unfold oe;rw[O6 (by omega)]
theorem wL{ns:List Nod}{n:Nod}:ah (ns++[n]) (ns.length:Int)=n.kids:=
 (aM (i:=ns.length) (by simp)).symm
theorem tL{ns xs:List Nod}(hc:cb (ah ns)):∀(f:Nat) (l:List Int),(∀k∈l,0≤k∧k<ns.length)→aF (ns++xs) f l=aF ns f l
 | 0,l,_=>rfl
 | f+1,l,hl=>by
  induction l with
  | nil=>rw[aA,aA]
  | cons k l ih=>
   have hk:=hl k (by simp);rw[aH,aH,ih (fun x hx=>hl x (by simp[hx])),zG hk.2,
    tL hc f (ah ns k) (fun x hx=>by have:=hc k x hx;omega)]
   congr 1
   unfold dat;rw[Ia hk.1 hk.2]
theorem zV{ns xs:List Nod}(hc:cb (ah ns)):∀(f:Nat) (l:List Int),(∀k∈l,0≤k∧k<ns.length)→dfs (ah (ns++xs)) f l=dfs (ah ns) f l
 | 0,l,_=>rfl
 | f+1,l,hl=>by
  show l.flatMap _=l.flatMap _
  rw[PN,PN]
  congr 1
  apply Pk;intro k hk;have h:=hl k hk;rw[zG h.2,zV hc f (ah ns k) (fun x hx=>by have:=hc k x hx;omega)]
theorem KOk.snoc{ns:List Nod}{n:Nod}(h:KOk ns)(hn:∀k∈n.kids,0≤k∧k<ns.length):KOk (ns++[n]):=by
 intro i m hm k hk;rcases Nat.lt_trichotomy i ns.length with hi|hi|hi
 ·rw[O6 hi] at hm;exact h i m hm k hk
 ·subst hi;simp at hm;subst hm;exact hn k hk
 ·rw[OG (by simp;omega)] at hm
  cases hm
structure Den(ar:List Nod)(p:Int)(F:Fo):Prop where
 pos:0≤p
 lt:p<ar.length
 fo:aF ar ar.length [p]=F
theorem Den.app{ar xs:List Nod}{p:Int}{F:Fo}(hc:cb (ah ar))(h:Den ar p F):Den (ar++xs) p F:=by
 have hp:=h.pos;have hl:=h.lt;refine⟨hp,by simp;omega,?_⟩;rw[tL hc _ _ (by intro k hk;simp at hk;subst hk;exact⟨hp,hl⟩),←h.fo];exact cN hc _ _ _ (by intro k hk;simp at hk;subst hk;simp;omega) (by intro k hk;simp at hk;subst hk;exact hl)
theorem Den.snoc{ar:List Nod}{n:Nod}(hc:cb (ah ar))(hn:∀k∈n.kids,0≤k∧k<ar.length):Den (ar++[n]) (ar.length:Int) (.cons { n with kids:=[] } (aF ar ar.length n.kids) .nil):=by
 refine⟨by omega,by simp;omega,?_⟩;rw[show(ar++[n]).length=ar.length+1 by simp,aH,aA,wL,tL hc _ _ hn]
 congr 1
 unfold dat;rw[List.getD_eq_getElem?_getD,Oo,OL (Ov _)];simp
theorem bk{ns:List Nod}{f:Nat}(k:Int)(l:List Int)(hf:0<f):aF ns f (k :: l)=(aF ns f [k]).app (aF ns f l):=by
 obtain⟨g,rfl⟩:∃g,f=g+1:=⟨f - 1,by omega⟩
 exact Hg ns g k l
theorem ew{ns:List Nod}{f:Nat}(k:Int)(hf:0<f):∃j,aF ns f [k]=.cons (dat ns k) j .nil:=by
 obtain⟨g,rfl⟩:∃g,f=g+1:=⟨f - 1,by omega⟩
 exact⟨_,by rw[aH,aA]⟩
def bj(ns:List Nod)(k:Int):Int:=(ns.getD k.toNat .zero).kind
def uu(ar:List Nod)(n e:Nod):List Int→List Nod×Int
 | []=>(ar++[e],ar.length)
 | [p]=>(ar,p)
 | ps=>(ar++[{ n with kids:=ps }],ar.length)
def uE(ar:List Nod)(K:List Int):List Int:=K.filter fun k=>!decide (bj ar k=0)
def lP(ar:List Nod)(n:Nod)(K:List Int):List Nod×Int:=
 if n.kind=4 then uu ar n dB (uE ar K) else if n.kind=5 then uu ar n iM K else (ar++[{ n with kids:=K }],ar.length)
theorem v3{ar:List Nod}(hf:0<ar.length):∀(K:List Int),aF ar ar.length (uE ar K)=(aF ar ar.length K).cJ
 | []=>by rw[aA];show aF ar _ []=_;rw[aA];rfl
 | k :: l=>by
  obtain⟨j,hj⟩:=ew (ns:=ar) k hf;rw[bk k l hf,Fo.qc,hj];unfold uE at *;rw[QT];have ih:=v3 hf l;unfold uE at ih;have hd:(dat ar k).kind=bj ar k:=rfl
  by_cases h:bj ar k=0
  ·simp only[h,decide_true,QJ,OQ,if_false,Fo.cJ,hd,if_true];rw[ih];rfl
  ·simp only[h,decide_false,Q9,if_true,Fo.cJ,hd,if_false];rw[bk k _ hf,hj,ih]
structure MA(ar:List Nod)(K:List Int)(r:List Nod×Int)(F:Fo):Prop where
 den:Den r.1 r.2 F
 kok:KOk r.1
 grow:r.1=ar∧r.2∈K∨∃x:Nod,r.1=ar++[x]∧r.2=ar.length∧x.kids.Sublist K
theorem sL{ar:List Nod}{n e:Nod}{K P:List Int}(hk:KOk ar)(hP:∀k∈P,0≤k∧k<ar.length)(hs:P.Sublist K)(he:e.kids=[]) :
  MA ar K (uu ar n e P) (Fo.join { n with kids:=[] } e (aF ar ar.length P)):=by
 have hc:cb (ah ar):=hk.ah
 match P,hP,hs with
 | [],_,_=>
  refine⟨?_,hk.snoc (by rw[he];simp),.inr ⟨e,rfl,rfl,by rw[he];exact List.nil_sublist _⟩⟩;have:=Den.snoc hc (n:=e) (by rw[he];simp);rw[he,aA] at this;rw[aA];have e2:({ e with kids:=[] }:Nod)=e:=by rw[←he]
  rw[e2] at this;exact this
 | [p],hP,hs=>
  have hp:=hP p (by simp);refine⟨⟨hp.1,hp.2,?_⟩,hk,.inl ⟨rfl,hs.subset (by show p∈[p];simp)⟩⟩;obtain⟨j,hj⟩:=ew (ns:=ar) p (by omega:0<ar.length);show aF ar ar.length [p]=_
  rw[hj];rfl
 | p :: q :: l,hP,hs=>
  refine⟨?_,hk.snoc hP,.inr ⟨{ n with kids:=p :: q :: l },rfl,rfl,hs⟩⟩;have hp:=hP p (by simp);have h:=Den.snoc hc (n:={ n with kids:=p :: q :: l }) hP;have hl:2≤(aF ar ar.length (p :: q :: l)).len:=by rw[zK _ _ _ (by omega)];simp
  rw[Fo.eu _ _ hl];exact h
theorem Bn{ar:List Nod}{n:Nod}{K:List Int}{F:Fo}(hk:KOk ar)(hK:∀k∈K,0≤k∧k<ar.length)(hF:aF ar ar.length K=F.nrm) :
  MA ar K (lP ar n K) (Fo.cons { n with kids:=[] } F .nil).nrm:=by
 have e:(Fo.cons { n with kids:=[] } F .nil).nrm=if n.kind=4 then Fo.join { n with kids:=[] } dB F.nrm.cJ else if n.kind=5 then Fo.join { n with kids:=[] } iM F.nrm else .cons { n with kids:=[] } F.nrm .nil:=by
  show(if n.kind=4 then _ else if n.kind=5 then _ else _:Fo).app .nil=_
  rw[Fo.nV]
 rw[e];unfold lP
 split
 ·have h:=sL (n:=n) (e:=dB) (K:=K) hk (P:=uE ar K) (fun k hk'=>hK k (Qu.1 hk').1) List.filter_sublist rfl
  by_cases hlen:0<ar.length
  ·rw[v3 hlen,hF] at h;exact h
  ·have:K=[]:=by
    cases K with
    | nil=>rfl
    | cons k K=>have:=hK k (by simp);omega
   subst this;rw[aA] at hF;rw[←hF];rw[show uE ar []=[] from rfl,aA] at h;exact h
 ·split
  ·have h:=sL (n:=n) (e:=iM) (K:=K) hk (P:=K) hK (List.Sublist.refl _) rfl;rw[hF] at h;exact h
  ·refine⟨?_,hk.snoc hK,.inr ⟨{ n with kids:=K },rfl,rfl,List.Sublist.refl _⟩⟩;have h:=Den.snoc hk.ah (n:={ n with kids:=K }) hK;rw[hF] at h;exact h
def unC(t:Tre)(i:Nat):List Int:=((List.range i).map Int.ofNat).filter fun k=>!decide (k∈aB (t.nodes.take i))
theorem m3(t:Tre)(i:Nat)(x:Int):(unC t i).count x=if 0≤x∧x<i∧x ∉ aB (t.nodes.take i) then 1 else 0:=by
 unfold unC
 by_cases h:x∈aB (t.nodes.take i)
 ·rw[if_neg (fun hh=>hh.2.2 h)];exact O8.2 fun hm=>by have:=(Qu.1 hm).2;simp[h] at this
 ·rw[List.count_filter (by simpa using h),oq]
  by_cases h2:0≤x∧x<(i:Int)
  ·rw[if_pos h2,if_pos ⟨h2.1,h2.2,h⟩]
  ·rw[if_neg h2,if_neg (fun hh=>h2 ⟨hh.1,hh.2.1⟩)]
theorem pI(a:List Nod)(n:Nod):aB (a++[n])=aB a++n.kids:=by simp[aB]
theorem HU{t:Tre}(hR:ax t){i:Nat}{n:Nod}(hn:t.nodes[i]?=some n):(unC t (i+1)++n.kids).Perm (unC t i++[(i:Int)]):=by
 rw[QW];intro x;obtain⟨hi,he⟩:=Ox.1 hn;have htk:t.nodes.take (i+1)=t.nodes.take i++[n]:=by rw[List.take_succ_eq_append_getElem hi,he]
 have hko:=hR.kok i n hn;have hle:(aB (t.nodes.take i)).count x+n.kids.count x≤1:=by
  have h1:(aB t.nodes).count x≤1:=by
   by_cases hx:0≤x∧x<t.nodes.length
   ·have:=hR.count x.toNat (by omega);rw[show((x.toNat:Nat):Int)=x by omega] at this;rw[this];split<;>omega
   ·have:(aB t.nodes).count x=0:=O8.2 fun hm=>by
     obtain⟨m,hm1,hm2⟩:=Qg.1 hm;obtain⟨j,hj⟩:=PS.1 hm1;have:=hR.kok j m hj x hm2;have:=(Ox.1 hj).1;omega
    omega
  have h2:aB t.nodes=aB (t.nodes.take i)++(n.kids++aB (t.nodes.drop (i+1))):=by
   conv=>lhs;rw[←List.take_append_drop (i+1) t.nodes,htk]
   simp[aB]
  rw[h2,OP,OP] at h1;omega
 have hlt:∀y∈aB (t.nodes.take i),0≤y∧y<(i:Int):=by
  intro y hy;obtain⟨m,hm1,hm2⟩:=Qg.1 hy;obtain⟨j,hj⟩:=PS.1 hm1;rw[List.getElem?_take] at hj
  split at hj
  ·have:=hR.kok j m hj y hm2;omega
  ·cases hj
 rw[OP,OP,m3,m3,htk,pI,List.count_singleton];have ha:x∈aB (t.nodes.take i)↔0<(aB (t.nodes.take i)).count x:=List.count_pos_iff.symm;have hb:x∈n.kids↔0<n.kids.count x:=List.count_pos_iff.symm
 by_cases hxi:x=(i:Int)
 ·subst hxi;have h0:n.kids.count (i:Int)=0:=O8.2 fun hm=>by have:=hko _ hm;omega
  have h1:(i:Int) ∉ aB (t.nodes.take i):=fun hm=>by have:=hlt _ hm;omega
  rw[if_pos ⟨by omega,by omega,by rw[Oy];rintro(h|h);exact h1 h;rw[hb] at h;omega⟩,if_neg (by omega),h0];simp
 ·have hne:((i:Int)==x)=false:=by simp;omega
  rw[hne];simp only[OQ,if_false,Qj]
  by_cases hm:x∈n.kids
  ·have:=hko x hm;have hc1:=hb.1 hm;rw[if_neg (fun hh=>hh.2.2 (by rw[Oy];exact .inr hm)),if_pos ⟨this.1,this.2,fun hh=>by have:=ha.1 hh;omega⟩];omega
  ·have h0:n.kids.count x=0:=O8.2 hm;rw[h0,Qj]
   by_cases hq:0≤x∧x<(i:Int)∧x ∉ aB (t.nodes.take i)
   ·rw[if_pos hq,if_pos ⟨hq.1,by omega,by rw[Oy];rintro(h|h);exact hq.2.2 h;exact hm h⟩]
   ·rw[if_neg hq,if_neg (fun hh=>hq ⟨hh.1,by omega,fun h=>hh.2.2 (by rw[Oy];exact .inl h)⟩)]
structure sM(t:Tre)(i:Nat)(ar:List Nod)(pl:List Int):Prop where
 len:pl.length=i
 kok:KOk ar
 den:∀k:Nat,k<i→Den ar (pl.getD k 0) (aF t.nodes t.nodes.length [(k:Int)]).nrm
 MR:ar.length≤i
 nd:∀x,(dfs (ah ar) ar.length ((unC t i).map fun k=>pl.getD k.toNat 0)).count x≤1
theorem sM.zero(t:Tre):sM t 0 [] []:=⟨rfl,fun i n h=>by simp at h,fun k h=>by omega,Ov _,fun x=>by simp[unC,dfs]⟩
theorem places{t:Tre}{i:Nat}{ar:List Nod}{pl:List Int}(h:sM t i ar pl)(hN:i≤t.nodes.length):∀(l:List Int),(∀k∈l,0≤k∧k<(i:Int))→
  (∀p∈l.map (fun k=>pl.getD k.toNat 0),0≤p∧p<ar.length)∧aF ar ar.length (l.map fun k=>pl.getD k.toNat 0)=(aF t.nodes t.nodes.length l).nrm
 | [],_=>by simp[aA,Fo.nrm]
 | k :: l,hl=>by
  have hk:=hl k (by simp);obtain⟨a,b⟩:=places h hN l (fun x hx=>hl x (by simp[hx]));have hd:=h.den k.toNat (by omega);rw[show((k.toNat:Nat):Int)=k by omega] at hd;have h1:=hd.pos;have h2:=hd.lt;refine⟨?_,?_⟩
  ·intro p hp;rw[OB] at hp;rcases OD.1 hp with rfl|hp
   ·exact⟨h1,h2⟩
   ·exact a p hp
  ·rw[OB,bk _ _ (by omega),hd.fo,b,bk k l (by omega),Fo.C7]
theorem E4{t:Tre}(hR:ax t){i:Nat}{n:Nod}(hn:t.nodes[i]?=some n):aF t.nodes t.nodes.length [(i:Int)]=.cons { n with kids:=[] } (aF t.nodes t.nodes.length n.kids) .nil:=by
 obtain⟨hi,_⟩:=Ox.1 hn;obtain⟨f,hf⟩:∃f,t.nodes.length=f+1:=⟨t.nodes.length - 1,by omega⟩
 have hko:=hR.kok i n hn;rw[hf,aH,aA,←aM hn,cN hR.kok.ah f (f+1) n.kids (fun k hk=>by have:=hko k hk;omega) (fun k hk=>by have:=hko k hk;omega)]
 congr 1
 unfold dat;rw[Oo,List.getD_eq_getElem?_getD,hn];rfl
theorem vZ(pl:List Int)(p:Int)(k:Nat):(pl++[p]).getD k 0=if k<pl.length then pl.getD k 0 else if k=pl.length then p else 0:=by
 rw[List.getD_eq_getElem?_getD,List.getD_eq_getElem?_getD]
 split
 ·rw[O6 (by omega)]
 ·split
  ·rename_i h;subst h;simp
  ·rw[OG (by simp;omega)];rfl
theorem pT{ar:List Nod}(hc:cb (ah ar)){f:Nat}(l:List Int)(hl:∀k∈l,0≤k∧k<ar.length)(hf:ar.length≤f):dfs (ah ar) f l=dfs (ah ar) ar.length l:=
 pq hc f ar.length l (fun k hk=>by have:=hl k hk;omega) (fun k hk=>(hl k hk).2)
theorem lV{P K:List Int}(h:P.Sublist K)(f:Int→List Int)(x:Int):(P.flatMap f).count x≤(K.flatMap f).count x:=by
 induction h with
 | slnil=>exact Ov _
 | cons a _ ih=>rw[OR,OP];omega
 | cons_cons a _ ih=>rw[OR,OR,OP,OP];omega
theorem jS{ch:Int→List Int}{f:Nat}{P K:List Int}(h:P.Sublist K)(x:Int):(dfs ch f P).count x≤(dfs ch f K).count x:=by
 cases f with
 | zero=>exact Ov _
 | succ f=>exact lV h _ x
theorem Ha{ch:Int→List Int}{f:Nat}{P K:List Int}(h:P.Perm K)(x:Int):(dfs ch f P).count x=(dfs ch f K).count x:=by
 cases f with
 | zero=>rfl
 | succ f=>exact(h.flatMap_right _).count_eq x
theorem sM.step{t:Tre}(hR:ax t){i:Nat}{n:Nod}(hn:t.nodes[i]?=some n){ar:List Nod}{pl:List Int}(h:sM t i ar pl) :
  sM t (i+1) (lP ar n (n.kids.map fun k=>pl.getD k.toNat 0)).1 (pl++[(lP ar n (n.kids.map fun k=>pl.getD k.toNat 0)).2]):=by
 obtain⟨hi,_⟩:=Ox.1 hn;have hko:=hR.kok i n hn;obtain⟨hK,hF⟩:=places h (by omega) n.kids hko;have hcome:=Bn (n:=n) h.kok hK hF;rw[←E4 hR hn] at hcome;generalize lP ar n (n.kids.map fun k=>pl.getD k.toNat 0)=r at *;obtain⟨ar',p⟩:=r;obtain⟨hden,hkok,hgrow⟩:=hcome;simp only at hden hkok hgrow ⊢;have hc:=h.kok.ah;have hc':=hkok.ah;have hpl:=h.len;have hg:∀k:Nat,k<i→(pl++[p]).getD k 0=pl.getD k 0:=fun k hk=>by rw[vZ,if_pos (by omega)]
 have hgi:(pl++[p]).getD i 0=p:=by rw[vZ,if_neg (by omega),if_pos hpl.symm]
 have happ:∃xs,ar'=ar++xs:=by
  rcases hgrow with ⟨rfl,_⟩|⟨x,rfl,_⟩
  ·exact⟨[],by simp⟩
  ·exact⟨[x],rfl⟩
 obtain⟨xs,hxs⟩:=happ;refine⟨by simp[hpl],hkok,fun k hk=>?_,?_,fun x=>?_⟩
 ·by_cases hki:k=i
  ·subst hki;rw[hgi];exact hden
  ·rw[hg k (by omega),hxs];exact(h.den k (by omega)).app hc
 ·have:=h.MR;rcases hgrow with ⟨rfl,_⟩|⟨x,rfl,_⟩
  ·omega
  ·simp;omega
 ·
  have hperm:=(HU hR hn).map (fun k:Int=>(pl++[p]).getD k.toNat 0);rw[List.map_append,List.map_append,OB,P0,Oo,hgi] at hperm;have e1:n.kids.map (fun k:Int=>(pl++[p]).getD k.toNat 0)=n.kids.map fun k=>pl.getD k.toNat 0:=Pk fun k hk=>hg _ (by have:=hko k hk;omega)
  have hul:∀k∈unC t i,0≤k∧k<(i:Int):=by
   intro k hk;have h1:=Qk.2 hk;rw[m3] at h1
   split at h1
   ·rename_i hh;exact⟨hh.1,hh.2.1⟩
   ·omega
  have e2:(unC t i).map (fun k:Int=>(pl++[p]).getD k.toNat 0)=(unC t i).map fun k=>pl.getD k.toNat 0:=Pk fun k hk=>hg _ (by have:=hul k hk;omega)
  rw[e1,e2] at hperm;obtain⟨hU,_⟩:=places h (by omega) (unC t i) hul;have hcnt:=Ha (ch:=ah ar') (f:=ar'.length) hperm x;rw[bD,bD,OP,OP] at hcnt;have hnd:=h.nd x;have hlen:ar.length≤ar'.length:=by rw[hxs];simp
  have eU:dfs (ah ar') ar'.length ((unC t i).map fun k=>pl.getD k.toNat 0)=dfs (ah ar) ar.length ((unC t i).map fun k=>pl.getD k.toNat 0):=by
   rw[←pT hc _ hU hlen];have e3:=zV (xs:=xs) hc ar'.length _ hU;rw[←hxs] at e3;exact e3
  rw[eU] at hcnt;generalize hKl:n.kids.map (fun k=>pl.getD k.toNat 0)=K at *;rcases hgrow with ⟨_,hp⟩|⟨y,rfl,rfl,hs⟩
  ·have:=jS (ch:=ah ar') (f:=ar'.length) (List.singleton_sublist.2 hp) x;omega
  ·have hyk:∀k∈y.kids,0≤k∧k<(ar.length:Int):=fun k hk=>hK k (hs.subset hk)
   rw[aS hc' (by omega) (by simp;omega),bT,Oj,wL,Pr] at hcnt;have h2:=jS (ch:=ah (ar++[y])) (f:=(ar++[y]).length) hs x
   by_cases hx:x=(ar.length:Int)
   ·subst hx;have:(dfs (ah ar) ar.length ((unC t i).map fun k=>pl.getD k.toNat 0)).count (ar.length:Int)=0:=O8.2 fun hm=>by have:=iU hc _ _ hU _ hm;omega
    rw[this] at hcnt;simp only[beq_self_eq_true,if_true] at hcnt;omega
   ·have:((ar.length:Int)==x)=false:=by simp;omega
    rw[this] at hcnt;simp only[OQ,if_false] at hcnt;omega
theorem vS{ns:List Nod}{f:Nat}(hf:0<f):∀(a b:List Int),aF ns f (a++b)=(aF ns f a).app (aF ns f b)
 | [],b=>by rw[aA];rfl
 | k :: a,b=>by rw[List.cons_append,bk k _ hf,bk k a hf,vS hf a b,Fo.zJ]
theorem gl{ns:List Nod}(hc:cb (ah ns)){k:Int}(h0:0≤k)(hk:k<ns.length):aF ns ns.length [k]=.cons (dat ns k) (aF ns ns.length (ah ns k)) .nil:=by
 obtain⟨f,hf⟩:∃f,ns.length=f+1:=⟨ns.length - 1,by omega⟩
 rw[hf,aH,aA,cN hc f (f+1) (ah ns k) (fun x hx=>by have:=hc k x hx;omega) (fun x hx=>by have:=hc k x hx;omega)]
def Fo.uW(k:Int):Fo→Fo
 | .nil=>.nil
 | .cons m j r=>if m.kind=k then (j.uW k).app (r.uW k) else .cons m j (r.uW k)
theorem Fo.uB(k:Int):∀F G:Fo,(F.app G).uW k=(F.uW k).app (G.uW k)
 | .nil,_=>rfl
 | .cons m j r,G=>by
  simp only[Fo.app,Fo.uW]
  split
  ·rw[Fo.uB k r G,Fo.zJ]
  ·rw[Fo.uB k r G,Fo.app]
theorem Fo.pC{k:Int}(hk:k=4∨k=5):∀F:Fo,(F.uW k).opF=F.opF.opn k
 | .nil=>rfl
 | .cons m j r=>by
  simp only[Fo.uW,Fo.opF,Fo.opn]
  split
  ·rename_i hm;rw[Fo.sF,Fo.pC hk j,Fo.pC hk r,hm,if_pos hk]
  ·rw[Fo.opF,Fo.pC hk r]
def cH(ns:List Nod)(kind:Int):Nat→List Int→List Int
 | 0,_=>[]
 | f+1,l=>l.flatMap fun i=>if bj ns i=kind then cH ns kind f (ah ns i) else [i]
theorem bb(ns:List Nod)(kind:Int)(f:Nat):cH ns kind f []=[]:=by cases f<;>rfl
theorem DS(ns:List Nod)(kind:Int)(f:Nat)(a b:List Int):cH ns kind f (a++b)=cH ns kind f a++cH ns kind f b:=by cases f<;>simp[cH]
theorem fO{ns:List Nod}{kind:Int}(h:cb (ah ns)):∀(f g:Nat) (l:List Int),(∀k∈l,0≤k∧k<f)→(∀k∈l,k<g)→cH ns kind f l=cH ns kind g l
 | 0,g,l,hf,hg=>by
  cases l with
  | nil=>rw[bb,bb]
  | cons k l=>have:=hf k (by simp);omega
 | f+1,0,l,hf,hg=>by
  cases l with
  | nil=>rw[bb,bb]
  | cons k l=>
   have:=hf k (by simp);have:=hg k (by simp);omega
 | f+1,g+1,l,hf,hg=>by
  show l.flatMap _=l.flatMap _
  rw[PN,PN]
  congr 1
  apply Pk;intro k hk;have h1:=hf k hk;have h2:=hg k hk;rw[fO h f g (ah ns k) (fun x hx=>⟨(h k x hx).1,by have:=(h k x hx).2;omega⟩) (fun x hx=>by have:=(h k x hx).2;omega)]
theorem jn{ns:List Nod}{kind:Int}(h:cb (ah ns)){f:Nat}{k:Int}{l:List Int}(h0:0≤k)(hk:k<f) :
  cH ns kind f (k :: l)=(if bj ns k=kind then cH ns kind f (ah ns k) else [k])++cH ns kind f l:=by
 cases f with
 | zero=>omega
 | succ f=>
  have e:cH ns kind f (ah ns k)=cH ns kind (f+1) (ah ns k):=fO h f (f+1) (ah ns k) (fun x hx=>⟨(h k x hx).1,by have:=(h k x hx).2;omega⟩) (fun x hx=>by have:=(h k x hx).2;omega);rw[←e];simp[cH]
theorem mV{ns:List Nod}{kind:Int}(h:cb (ah ns)):∀(f:Nat) (l:List Int),(∀k∈l,0≤k∧k<f)→∀x∈cH ns kind f l,(0≤x∧x<f)∧bj ns x≠kind
 | 0,l,_,x,hx=>by cases hx
 | f+1,l,hl,x,hx=>by
  simp only[cH,Qg] at hx;obtain⟨k,hk,hx⟩:=hx;have h1:=hl k hk
  split at hx
  ·have:=mV h f (ah ns k) (fun y hy=>by have:=h k y hy;omega) x hx;exact⟨by omega,this.2⟩
  ·rename_i hne;simp at hx;subst hx;exact⟨by omega,hne⟩
theorem mG{ns:List Nod}{kind:Int}{f:Nat}(hf:0<f):∀(l:List Int),(∀k∈l,bj ns k≠kind)→cH ns kind f l=l
 | [],_=>bb _ _ _
 | k :: l,hl=>by
  obtain⟨g,rfl⟩:∃g,f=g+1:=⟨f - 1,by omega⟩
  have ih:=mG (ns:=ns) (kind:=kind) hf l (fun x hx=>hl x (by simp[hx]));simp only[cH] at ih ⊢;rw[OR,ih,if_neg (hl k (by simp))];rfl
def chO(ns:List Nod)(k:Int):List Int:=if bj ns k=4∨bj ns k=5 then cH ns (bj ns k) ns.length (ah ns k) else ah ns k
theorem jN{ns:List Nod}{k x:Int}(h:x∈ah ns k):0≤k∧k<ns.length:=by
 refine⟨?_,?_⟩
 ·by_cases h0:0≤k
  ·exact h0
  ·unfold ah at h;rw[if_pos (by omega)] at h;cases h
 ·by_cases h0:k<(ns.length:Int)
  ·exact h0
  ·rw[E6 (by omega)] at h;cases h
theorem ml{ns:List Nod}(h:cb (ah ns)):cb (chO ns):=by
 intro k x hx;unfold chO at hx
 split at hx
 ·by_cases he:ah ns k=[]
  ·rw[he,bb] at hx;cases hx
  ·obtain⟨y,hy⟩:=QP _ he;have hk:=jN hy;rw[fO h ns.length k.toNat (ah ns k) (fun z hz=>by have:=h k z hz;omega) (fun z hz=>by have:=h k z hz;omega)] at hx;have:=(mV h k.toNat (ah ns k) (fun z hz=>by have:=h k z hz;omega) x hx).1;omega
 ·exact h k x hx
theorem n8{ns:List Nod}{kind:Int}(h:cb (ah ns)):∀(f:Nat) (l:List Int),(∀k∈l,0≤k∧k<f)→f≤ns.length→aF ns ns.length (cH ns kind f l)=(aF ns ns.length l).uW kind
 | 0,l,hl,_=>by
  cases l with
  | nil=>rw[bb,aA];rfl
  | cons k l=>have:=hl k (by simp);omega
 | f+1,[],_,_=>by rw[bb,aA];rfl
 | f+1,k :: l,hl,hf=>by
  have hk:=hl k (by simp);have ih:=n8 h (kind:=kind) (f+1) l (fun x hx=>hl x (by simp[hx])) hf;rw[jn h hk.1 (by omega),vS (by omega),ih,bk k l (by omega),Fo.uB,gl h hk.1 (by omega)]
  congr 1
  have hd:(dat ns k).kind=bj ns k:=rfl;simp only[Fo.uW,hd,Fo.nV]
  split
  ·rw[fO h (f+1) f (ah ns k) (fun x hx=>by have:=h k x hx;omega) (fun x hx=>by have:=h k x hx;omega)];exact n8 h f (ah ns k) (fun x hx=>by have:=h k x hx;omega) (by omega)
  ·exact gl h hk.1 (by omega)
def opA(ns:List Nod):List Nod:=(List.range ns.length).map fun i=>{ ns.getD i .zero with kids:=chO ns (i:Int) }
theorem lA(ns:List Nod):(opA ns).length=ns.length:=by simp[opA]
theorem xA{ns:List Nod}{i:Nat}(h:i<ns.length):(opA ns)[i]?=some { ns.getD i .zero with kids:=chO ns (i:Int) }:=by simp[opA,h]
theorem FB{ns:List Nod}{k:Int}(h:¬(0≤k∧k<ns.length)):chO ns k=[]:=by
 have he:ah ns k=[]:=by
  cases hc:ah ns k with
  | nil=>rfl
  | cons x l=>exact absurd (jN (x:=x) (by rw[hc];simp)) h
 unfold chO;rw[he,bb]
 split<;>rfl
theorem pr(ns:List Nod)(k:Int):ah (opA ns) k=chO ns k:=by
 by_cases h:0≤k∧k<ns.length
 ·obtain⟨i,rfl⟩:∃i:Nat,k=i:=⟨k.toNat,by omega⟩
  exact(aM (xA (by omega))).symm
 ·rw[FB h]
  cases hc:ah (opA ns) k with
  | nil=>rfl
  | cons x l=>
   have:=jN (ns:=opA ns) (x:=x) (k:=k) (by rw[hc];simp);rw[lA] at this;exact absurd this h
theorem yr{ns:List Nod}(h:cb (ah ns)):cb (ah (opA ns)):=by
 intro k x hx;rw[pr] at hx;exact ml h k x hx
theorem JU{ns:List Nod}{k:Int}(h0:0≤k)(h:k<ns.length):dat (opA ns) k=dat ns k:=by
 obtain⟨i,rfl⟩:∃i:Nat,k=i:=⟨k.toNat,by omega⟩
 unfold dat;rw[Oo,List.getD_eq_getElem?_getD,xA (by omega)];rfl
theorem uk{ns:List Nod}(h:cb (ah ns)):∀(m:Nat) (l:List Int),(∀k∈l,0≤k∧k<m)→m≤ns.length→aF (opA ns) ns.length l=(aF ns ns.length l).opF
 | 0,l,hl,_=>by
  cases l with
  | nil=>rw[aA,aA];rfl
  | cons k l=>have:=hl k (by simp);omega
 | m+1,[],_,_=>by rw[aA,aA];rfl
 | m+1,k :: l,hl,hm=>by
  have hk:=hl k (by simp);have ih:=uk h (m+1) l (fun x hx=>hl x (by simp[hx])) hm;have hc:=yr h;have e1:=gl (ns:=opA ns) hc hk.1 (by rw[lA];omega);rw[lA] at e1;rw[bk k l (by omega),ih,e1,bk (ns:=ns) k l (by omega),Fo.sF,gl h hk.1 (by omega),JU hk.1 (by omega),pr,
   uk h m (chO ns k) (fun x hx=>by have:=ml h k x hx;omega) (by omega)]
  congr 1
  simp only[Fo.opF];have hd:(dat ns k).kind=bj ns k:=rfl;rw[hd]
  congr 1
  unfold chO
  split
  ·rename_i hkk;rw[n8 h ns.length (ah ns k) (fun x hx=>by have:=h k x hx;omega) (Ov _),Fo.pC hkk]
  ·rfl
theorem qY{ns:List Nod}{kind:Int}(h:cb (ah ns))(x:Int):∀(f:Nat) (l:List Int),(∀k∈l,0≤k∧k<f)→f≤ns.length→(dfs (ah ns) ns.length (cH ns kind f l)).count x≤(dfs (ah ns) ns.length l).count x
 | 0,l,hl,_=>by
  cases l with
  | nil=>rw[bb];exact Ov _
  | cons k l=>have:=hl k (by simp);omega
 | f+1,[],_,_=>by rw[bb];exact Ov _
 | f+1,k :: l,hl,hf=>by
  have hk:=hl k (by simp);have ih:=qY h (kind:=kind) x (f+1) l (fun x hx=>hl x (by simp[hx])) hf;rw[jn h hk.1 (by omega),bD,OP,aS h hk.1 (by omega),Pr,OP]
  split
  ·rw[fO h (f+1) f (ah ns k) (fun x hx=>by have:=h k x hx;omega) (fun x hx=>by have:=h k x hx;omega)];have:=qY h (kind:=kind) x f (ah ns k) (fun x hx=>by have:=h k x hx;omega) (by omega);omega
  ·rw[aS h hk.1 (by omega),bT,Oj,Pr];omega
theorem si{ns:List Nod}(h:cb (ah ns))(x:Int):∀(m:Nat) (l:List Int),(∀k∈l,0≤k∧k<m)→m≤ns.length→(dfs (chO ns) ns.length l).count x≤(dfs (ah ns) ns.length l).count x
 | 0,l,hl,_=>by
  cases l with
  | nil=>rw[bT];exact Oq _
  | cons k l=>have:=hl k (by simp);omega
 | m+1,[],_,_=>by rw[bT];exact Oq _
 | m+1,k :: l,hl,hm=>by
  have hk:=hl k (by simp);have ih:=si h x (m+1) l (fun x hx=>hl x (by simp[hx])) hm;rw[aS (ml h) hk.1 (by omega),aS h hk.1 (by omega),Pr,Pr,OP,OP];have h1:=si h x m (chO ns k) (fun x hx=>by have:=ml h k x hx;omega) (by omega);have h2:(dfs (ah ns) ns.length (chO ns k)).count x≤(dfs (ah ns) ns.length (ah ns k)).count x:=by
   unfold chO
   split
   ·exact qY h x ns.length (ah ns k) (fun x hx=>by have:=h k x hx;omega) (Ov _)
   ·exact Ov _
  omega
theorem HT{ns:List Nod}(hc:cb (ah ns)){r node:Int}(h0:0≤node)(hn:node<ns.length)(hnd:(jU (ah ns) ns.length [node]).Nodup):aC ⟨ns,r⟩ node=aR (aF ns ns.length [node]):=by
 obtain⟨pl,h1,h2,h3,h4⟩:=ln hc ns.length [node] 0 (List.replicate ns.length 0) [] (by intro k hk;simp at hk;subst hk;exact⟨h0,hn⟩) (Ov _) (by simp) hnd;unfold aC aR aU;rw[kH];simp only[Oj] at h2;rw[h2];simp[bo]
theorem vw{ns:List Nod}(h:cb (ah ns)){node:Int}(h0:0≤node)(hn:node<ns.length)(hnd:∀x,(dfs (ah ns) ns.length [node]).count x≤1):(dfs (chO ns) ns.length [node]).Nodup:=
 List.nodup_iff_count.2 fun x=>OA (si h x ns.length [node] (by intro k hk;simp at hk;subst hk;exact⟨h0,hn⟩) (Ov _)) (hnd x)
theorem DY{ns:List Nod}(h:cb (ah ns)){r node:Int}(h0:0≤node)(hn:node<ns.length)(hnd:∀x,(dfs (ah ns) ns.length [node]).count x≤1) :
  aC ⟨opA ns,r⟩ node=aR (aF ns ns.length [node]).opF:=by
 have hch:ah (opA ns)=chO ns:=funext fun k=>pr ns k
 rw[HT (yr h) h0 (by rw[lA];exact hn) (by rw[(dc _ _ _).nodup_iff,hch,lA];exact vw h h0 hn hnd),lA,
  uk h ns.length [node] (by intro k hk;simp at hk;subst hk;exact⟨h0,hn⟩) (Ov _)]
structure Mod(ns ns':List Nod):Prop where
 len:ns'.length=ns.length
 get:∀(i:Nat) n,ns[i]?=some n→∃ks,ns'[i]?=some { n with kids:=ks }∧(ks=ah ns i∨ks=chO ns i)
theorem Mod.refl(ns:List Nod):Mod ns ns:=⟨rfl,fun i n h=>⟨n.kids,h,.inl (aM h)⟩⟩
theorem Mod.kind{ns ns':List Nod}(h:Mod ns ns')(k:Int):bj ns' k=bj ns k:=by
 unfold bj;rw[List.getD_eq_getElem?_getD,List.getD_eq_getElem?_getD]
 cases hg:ns[k.toNat]? with
 | none=>
  have:=List.getElem?_eq_none_iff.1 hg;rw[OG (by rw[h.len];exact this)]
 | some n=>
  obtain⟨ks,h1,_⟩:=h.get _ n hg;rw[h1];rfl
theorem Mod.ch{ns ns':List Nod}(h:Mod ns ns')(k:Int):ah ns' k=ah ns k∨ah ns' k=chO ns k:=by
 by_cases hk:0≤k∧k<ns.length
 ·obtain⟨i,rfl⟩:∃i:Nat,k=i:=⟨k.toNat,by omega⟩
  obtain⟨ks,h1,h2⟩:=h.get i _ (Oe (by omega));have:=aM h1;simp only at this;rw[←this];exact h2
 ·left
  have e:∀ms:List Nod,ms.length=ns.length→ah ms k=[]:=by
   intro ms hm
   cases hc:ah ms k with
   | nil=>rfl
   | cons x l=>
    have:=jN (ns:=ms) (x:=x) (k:=k) (by rw[hc];simp);rw[hm] at this;exact absurd this hk
  rw[e ns rfl,e ns' h.len]
theorem Mod.Mk{ns ns':List Nod}(hc:cb (ah ns))(h:Mod ns ns'):cb (ah ns'):=by
 intro k x hx;rcases h.ch k with e|e<;>rw[e] at hx
 ·exact hc k x hx
 ·exact ml hc k x hx
theorem Mod.cH{ns ns':List Nod}(hc:cb (ah ns))(h:Mod ns ns'){kind:Int}(hkd:kind=4∨kind=5):∀(f:Nat) (l:List Int),(∀k∈l,0≤k∧k<f)→ab.cH ns' kind f l=ab.cH ns kind f l
 | 0,l,_=>rfl
 | f+1,l,hl=>by
  show l.flatMap _=l.flatMap _
  rw[PN,PN]
  congr 1
  apply Pk;intro k hk;have h1:=hl k hk;rw[h.kind]
  by_cases hkk:bj ns k=kind
  ·rw[if_pos hkk,if_pos hkk];rcases h.ch k with e|e
   ·rw[e];exact Mod.cH hc h hkd f (ah ns k) (fun x hx=>by have:=hc k x hx;omega)
   ·rw[e];have e2:chO ns k=ab.cH ns kind ns.length (ah ns k):=by unfold chO;rw[hkk,if_pos hkd]
    have hm:=ml hc
    by_cases he:ah ns k=[]
    ·rw[e2,he,bb,bb,bb]
    ·obtain⟨y,hy⟩:=QP _ he;have hkl:=jN hy;have hyk:=hc k y hy;have e3:ab.cH ns kind ns.length (ah ns k)=ab.cH ns kind f (ah ns k):=fO hc _ _ _ (fun x hx=>by have:=hc k x hx;omega) (fun x hx=>by have:=hc k x hx;omega);rw[mG (by omega) _ (fun x hx=>by
      rw[h.kind];rw[e2] at hx;exact(mV hc ns.length (ah ns k) (fun z hz=>by have:=hc k z hz;omega) x hx).2),e2,e3]
  ·rw[if_neg hkk,if_neg hkk]
theorem Mod.chO{ns ns':List Nod}(hc:cb (ah ns))(h:Mod ns ns')(k:Int):ab.chO ns' k=ab.chO ns k∨¬(bj ns k=4∨bj ns k=5):=by
 by_cases hkk:bj ns k=4∨bj ns k=5
 ·left
  unfold ab.chO;rw[h.kind,h.len,if_pos hkk,if_pos hkk];rcases h.ch k with e|e
  ·rw[e];exact Mod.cH hc h hkk _ _ (fun x hx=>by have:=hc k x hx;have:=jN hx;omega)
  ·rw[e];have e2:ab.chO ns k=ab.cH ns (bj ns k) ns.length (ah ns k):=by unfold ab.chO;rw[if_pos hkk]
   by_cases he:ah ns k=[]
   ·rw[e2,he,bb,bb]
   ·obtain⟨y,hy⟩:=QP _ he;have hkl:=jN hy;rw[mG (by omega) _ (fun x hx=>by
     rw[h.kind];rw[e2] at hx;exact(mV hc ns.length (ah ns k) (fun z hz=>by have:=hc k z hz;omega) x hx).2),e2]
 ·exact .inr hkk
theorem jT{ns:List Nod}{kind:Int}(h:cb (ah ns)):∀(f:Nat) (l:List Int),(∀k∈l,0≤k∧k<f)→f≤ns.length→(dfs (ah ns) ns.length (cH ns kind f l)).length≤(dfs (ah ns) ns.length l).length
 | 0,l,hl,_=>by
  cases l with
  | nil=>rw[bb];exact Ov _
  | cons k l=>have:=hl k (by simp);omega
 | f+1,[],_,_=>by rw[bb];exact Ov _
 | f+1,k :: l,hl,hf=>by
  have hk:=hl k (by simp);have ih:=jT h (kind:=kind) (f+1) l (fun x hx=>hl x (by simp[hx])) hf;rw[jn h hk.1 (by omega),bD,Oh,aS h hk.1 (by omega),Og,Oh]
  split
  ·rw[fO h (f+1) f (ah ns k) (fun x hx=>by have:=h k x hx;omega) (fun x hx=>by have:=h k x hx;omega)];have:=jT h (kind:=kind) f (ah ns k) (fun x hx=>by have:=h k x hx;omega) (by omega);omega
  ·rw[aS h hk.1 (by omega),bT,Oj,Og];omega
theorem Mod.pT{ns ms:List Nod}(h:cb (ah ns))(hm:Mod ns ms):∀(m:Nat) (l:List Int),(∀k∈l,0≤k∧k<m)→m≤ns.length→(dfs (ah ms) ns.length l).length≤(dfs (ah ns) ns.length l).length
 | 0,l,hl,_=>by
  cases l with
  | nil=>rw[bT];exact Oq _
  | cons k l=>have:=hl k (by simp);omega
 | m+1,[],_,_=>by rw[bT];exact Oq _
 | m+1,k :: l,hl,hm'=>by
  have hk:=hl k (by simp);have ih:=Mod.pT h hm (m+1) l (fun x hx=>hl x (by simp[hx])) hm';have hok:=Mod.Mk h hm;rw[aS hok hk.1 (by omega),aS h hk.1 (by omega),Og,Og,Oh,Oh];have h1:=Mod.pT h hm m (ah ms k) (fun x hx=>by have:=hok k x hx;omega) (by omega);have h2:(dfs (ah ns) ns.length (ah ms k)).length≤(dfs (ah ns) ns.length (ah ns k)).length:=by
   rcases hm.ch k with e|e
   ·rw[e];exact Ov _
   ·rw[e];unfold ab.chO
    split
    ·exact jT h ns.length (ah ns k) (fun x hx=>by have:=h k x hx;have:=jN hx;omega) (Ov _)
    ·exact Ov _
  omega
theorem Mod.set{ns ms:List Nod}(hm:Mod ns ms){i:Nat}{m:Nod}(hi:ms[i]?=some m):Mod ns (ms.set i { m with kids:=ab.chO ns (i:Int) }):=by
 refine⟨by simp[hm.len],fun j n hj=>?_⟩;obtain⟨ks,h1,h2⟩:=hm.get j n hj
 by_cases hij:i=j
 ·subst hij;rw[hi] at h1
  injection h1 with h1
  refine⟨ab.chO ns (i:Int),?_,.inr rfl⟩;rw[Qf (by exact(Ox.1 hi).1),h1]
 ·exact⟨ks,by rw[Qq hij];exact h1,h2⟩
theorem qg:∀{N:Nat} {l:List Int},l.Nodup→(∀k∈l,0≤k∧k<N)→l.length≤N
 | 0,[],_,_=>Ov _
 | 0,k :: l,_,h=>by have:=h k (by simp);omega
 | N+1,l,hn,h=>by
  have h1:=qg (N:=N) (l:=l.erase (N:Int)) (hn.erase _) (fun k hk=>by
   have h2:=h k (Rf hk);have h3:k≠(N:Int):=fun e=>by subst e;exact(List.Nodup.not_mem_erase hn) hk
   omega)
  have h2:=List.length_erase (a:=(N:Int)) (l:=l)
  split at h2<;>omega
theorem zO{ns:List Nod}(h:cb (ah ns)){node y:Int}(h0:0≤node)(hn:node<ns.length)(hy:y∈dfs (chO ns) ns.length [node]):y∈dfs (ah ns) ns.length [node]:=by
 have h1:=si h y ns.length [node] (by intro k hk;simp at hk;subst hk;exact⟨h0,hn⟩) (Ov _);have h2:=Qk.2 hy;exact Qk.1 (by omega)
theorem zr{ns:List Nod}(h:cb (ah ns)){node:Int}(h0:0≤node)(hn:node<ns.length)(hnd:∀x,(dfs (ah ns) ns.length [node]).count x≤1):(dfs (ah ns) ns.length [node]).length≤ns.length:=
 qg (List.nodup_iff_count.2 hnd) (iU h _ _ (by intro k hk;simp at hk;subst hk;exact⟨h0,hn⟩))
theorem xb{ns:List Nod}(h:cb (ah ns)){node:Int}(h0:0≤node)(hn:node<ns.length)(hnd:∀x,(dfs (ah ns) ns.length [node]).count x≤1):(dfs (chO ns) ns.length [node]).length≤ns.length:=
 qg (vw h h0 hn hnd) (iU (ml h) _ _ (by intro k hk;simp at hk;subst hk;exact⟨h0,hn⟩))
theorem Mod.room{ns ms:List Nod}(h:cb (ah ns))(hm:Mod ns ms){node y:Int}(h0:0≤node)(hn:node<ns.length)(hnd:∀x,(dfs (ah ns) ns.length [node]).count x≤1)(hy:y∈dfs (ab.chO ns) ns.length [node]) :
  (dfs (ah ms) ms.length [y]).length≤ns.length:=by
 have hl:∀k∈[node],0≤k∧k<(ns.length:Int):=by intro k hk;simp at hk;subst hk;exact⟨h0,hn⟩
 have hy1:=zO h h0 hn hy;have hy2:=iU h _ _ hl y hy1;rw[hm.len];exact OA (Mod.pT h hm ns.length [y] (by intro k hk;simp at hk;subst hk;exact hy2) (Ov _))
  (OA (jC h ns.length ns.length [node] hl (Ov _) y hy1) (zr h h0 hn hnd))
theorem Lk{ns ms:List Nod}(hm:Mod ns ms){i:Nat}{m:Nod}(hi:ms[i]?=some m)(hk:m.kids=chO ns (i:Int)):(opA ns)[i]?=some m:=by
 have hl:i<ns.length:=by rw[←hm.len];exact(Ox.1 hi).1
 obtain⟨ks,h1,_⟩:=hm.get i _ (Oe hl);rw[hi] at h1
 injection h1 with h1
 rw[xA hl,List.getD_eq_getElem?_getD,Oe hl];subst h1;simp only at hk;rw[hk];rfl
theorem Mod.EB{ns ms:List Nod}(hm:Mod ns ms){i:Nat}{m:Nod}(hi:ms[i]?=some m)(h4:m.kind≠4)(h5:m.kind≠5):m.kids=ab.chO ns (i:Int):=by
 have hl:i<ns.length:=by rw[←hm.len];exact(Ox.1 hi).1
 obtain⟨ks,h1,h2⟩:=hm.get i _ (Oe hl);rw[hi] at h1
 injection h1 with h1
 have hkA:bj ns (i:Int)=ns[i].kind:=by unfold bj;rw[List.getD_eq_getElem?_getD,Oo,Oe hl];rfl
 have e:ab.chO ns (i:Int)=ah ns i:=by
  unfold ab.chO;rw[if_neg (by rw[hkA];subst h1;simp only at h4 h5;rintro(h|h);exact h4 h;exact h5 h)]
 rw[e] at h2 ⊢;subst h1;rcases h2 with h2|h2<;>exact h2
theorem ib{F:Fo}(h1:F.len=1)(hb:F.bare):foT (aR F)=F:=by
 match F,h1 with
 | .cons m j .nil,_=>exact ku hb
 | .cons m j (.cons a b r),h1=>simp[Fo.len] at h1
theorem jA{F:Fo}(h1:F.len=1)(hf:F.fit=true):ao (aR F)=true:=by
 match F,h1 with
 | .cons m j .nil,_=>exact jo hf
 | .cons m j (.cons a b r),h1=>simp[Fo.len] at h1
theorem Fo.one{F:Fo}(h1:F.len=1):∃m j,F=.cons m j .nil:=by
 match F,h1 with
 | .cons m j .nil,_=>exact⟨m,j,rfl⟩
 | .cons m j (.cons a b r),h1=>simp[Fo.len] at h1
theorem ov{t:Tre}(h:ao t=true):(foT t).fb∧(foT t).len=1:=by
 obtain⟨n,k,e,hb,hf⟩:=fX (ak h);rw[e];exact⟨⟨hf,hb⟩,rfl⟩
theorem Im{l:List Tre}(h:∀t∈l,ao t=true):(foL l).fb∧(foL l).len=l.length:=
 let ⟨h1,h2,h3⟩:=x8 l h
 ⟨⟨h2,h3⟩,h1⟩
structure NT(t:Tre)(F:Fo):Prop where
 eq:t=aR F
 len:F.len=1
 fb:F.fb
 ok:F.ok
theorem NT.fo{t:Tre}{F:Fo}(h:NT t F):foT t=F:=by rw[h.eq];exact ib h.len h.fb.2
theorem NT.right{t:Tre}{F:Fo}(h:NT t F):ao t=true:=by rw[h.eq];exact jA h.len h.fb.1
theorem NT.clean{t:Tre}{F:Fo}(h:NT t F):aW t=t:=by rw[eQ h.right,h.fo,←h.eq]
theorem dH{t:Tre}(h:ao t=true):dU t=(aR (foT t).norm,true):=by unfold dU;rw[if_pos h]
theorem kn{t:Tre}(h:ao t=false):dU t=(.zero,false):=by unfold dU;rw[if_neg (by rw[h];simp)]
theorem G8(t:Tre):(dU t).2=ao t:=by
 cases h:ao t with
 | true=>rw[dH h]
 | false=>rw[kn h]
def Fo.parts(F:Fo):Fo:=F.cJ.opn 4
def Fo.ways(F:Fo):Fo:=F.opn 5
theorem Fo.Ih{F:Fo}(h:F.fb):F.parts.fb:=Fo.oD (Fo.kK h)
theorem Fo.JP{F:Fo}(h:F.fb):F.ways.fb:=Fo.oD h
theorem Fo.Gn{F:Fo}(h:F.ok):F.parts.ok:=Fo.qR (Fo.oP h)
theorem Fo.Ji{F:Fo}(h:F.ok):F.ways.ok:=Fo.qR h
theorem Fo.JS(F:Fo):Fo.put b5 F=Fo.join b5 dB F.parts:=rfl
theorem Fo.Cu(F:Fo):Fo.put en F=Fo.join en iM F.ways:=by
 unfold Fo.put;rw[if_neg (by decide),if_pos (by decide)];rfl
theorem zu{m:Nod}{c:Int}(h:fits m c=true)(hk:m.kind=0)(hb:m.kids=[]):m=dB∧c=0:=by
 obtain⟨k,s,t,a,b,l⟩:=m;simp only at hk hb;subst hk;subst hb;simp[fits] at h;obtain⟨⟨⟨⟨h1,h2⟩,h3⟩,h4⟩,h5⟩:=h;subst h1;subst h2;subst h3;subst h4;exact⟨rfl,h5⟩
theorem Fo.NZ{F:Fo}(h:F.len=0):F=.nil:=by
 cases F with
 | nil=>rfl
 | cons m j r=>simp[Fo.len] at h
theorem Fo.Bk{F:Fo}(h1:F.len=1)(hf:F.fb):Fo.join b5 dB F.parts=F:=by
 obtain⟨m,j,rfl⟩:=Fo.one h1;obtain⟨⟨g1,g2,g3⟩,_⟩:=Fo.aL.1 hf;unfold Fo.parts;simp only[Fo.cJ]
 by_cases h0:m.kind=0
 ·obtain⟨rfl,hc⟩:=zu g1 h0 g2;have:j=.nil:=Fo.NZ (by omega);subst this;rw[if_pos h0];rfl
 ·rw[if_neg h0];simp only[Fo.opn]
  by_cases h4:m.kind=4
  ·obtain⟨rfl,hc⟩:=dg g1 h4 g2;rw[if_pos h4,Fo.nV,Fo.eu _ _ (by omega)]
  ·rw[if_neg h4];rfl
theorem Fo.EM{F:Fo}(h1:F.len=1)(hf:F.fb):Fo.join en iM F.ways=F:=by
 obtain⟨m,j,rfl⟩:=Fo.one h1;obtain⟨⟨g1,g2,g3⟩,_⟩:=Fo.aL.1 hf;unfold Fo.ways;simp only[Fo.opn]
 by_cases h5:m.kind=5
 ·obtain⟨rfl,hc⟩:=dd g1 h5 g2;rw[if_pos h5,Fo.nV,Fo.eu _ _ (by omega)]
 ·rw[if_neg h5];rfl
def lM(n:Nod)(c:Int):Bool:=if n.kind=4∨n.kind=5 then fits n 2 else fits n c
def eG(n:Nod)(l:List Tre):Tre×Bool:=if (lM n l.length&&me l)=true then (aR (Fo.put n (foL l).norm),true) else (.zero,false)
theorem oZ{n:Nod}{l:List Tre}(h1:lM n l.length=true)(h2:me l=true):eG n l=(aR (Fo.put n (foL l).norm),true):=by unfold eG;rw[h1,h2];rfl
theorem tu{n:Nod}{l:List Tre}(h1:lM n l.length=false):eG n l=(.zero,false):=by unfold eG;rw[h1];rfl
theorem mg{n:Nod}{l:List Tre}(h1:me l=false):eG n l=(.zero,false):=by unfold eG;rw[h1,RA];rfl
theorem Le{n:Nod}{l:List Tre}(hb:n.kids=[])(hk:(n.kind=4∨n.kind=5)→2≤l.length):eG n l=if (ofP n l).2=true then dU (ofP n l).1 else (.zero,false):=by
 have hfk:lM n l.length=fits n l.length:=by
  unfold lM
  split
  ·rename_i h;have h2:=hk h;rw[OV]
   constructor
   ·intro hf;rcases h with h|h
    ·obtain⟨rfl,_⟩:=dg hf h hb;exact jm (by omega)
    ·obtain⟨rfl,_⟩:=dd hf h hb;exact jD (by omega)
   ·intro hf;rcases h with h|h
    ·obtain⟨rfl,_⟩:=dg hf h hb;exact jm (by omega)
    ·obtain⟨rfl,_⟩:=dd hf h hb;exact jD (by omega)
  ·rfl
 rw[K7]
 cases hf:fits n l.length with
 | false=>rw[tu (by rw[hfk,hf])];rfl
 | true=>
  cases hr:me l with
  | false=>rw[mg hr];rfl
  | true=>
   have hR:=eI.1 hr;obtain⟨h1,h2,_⟩:=Eb hf hR;rw[oZ (by rw[hfk,hf]) hr];simp only[Bool.and_self,if_true];rw[dH (bG.2 h1),h2];have e:({ n with kids:=[] }:Nod)=n:=by rw[←hb]
   rw[e,Fo.norm,Fo.norm,Fo.nV]
theorem IC{n:Nod}(hn:n=b5∨n=en)(t:Tre):eG n [t]=dU t:=by
 cases hr:ao t with
 | false=>rw[kn hr,mg (by simp[me,hr])]
 | true=>
  obtain⟨h1,h2⟩:=ov hr;have hfb:=Fo.pM h1;have hl:(foT t).norm.len=1:=by rw[Fo.jt,h2]
  rw[dH hr,oZ (by rcases hn with rfl|rfl<;>rfl) (by simp[me,hr])];have e:foL [t]=foT t:=by simp[foL,Fo.nV]
  rw[e];rcases hn with rfl|rfl
  ·rw[Fo.JS,Fo.Bk hl hfb]
  ·rw[Fo.Cu,Fo.EM hl hfb]
theorem Fo.jO{k:Int}:∀{F:Fo},F.dwf→(F.opn k).dwf
 | .nil,h=>h
 | .cons m j r,h=>by
  simp only[Fo.opn]
  split
  ·exact(Fo.iV _ _).2 ⟨h.2.1,Fo.jO h.2.2⟩
  ·exact⟨h.1,h.2.1,Fo.jO h.2.2⟩
theorem Fo.kB:∀{F:Fo},F.dwf→F.cJ.dwf
 | .nil,h=>h
 | .cons m j r,h=>by
  simp only[Fo.cJ]
  split
  ·exact Fo.kB h.2.2
  ·exact⟨h.1,h.2.1,Fo.kB h.2.2⟩
theorem Fo.yx{m e:Nod}{p:Fo}(hm:({ m with kids:=[] }:Nod).wf)(he:e.wf)(hp:p.dwf):(Fo.join m e p).dwf:=by
 rcases Fo.cP m e p with ⟨rfl,h⟩|⟨a,b,rfl,h⟩|⟨_,h⟩<;>rw[h]
 ·exact⟨he.wf0,trivial,trivial⟩
 ·exact hp
 ·exact⟨hm,hp,trivial⟩
theorem p7{n:Nod}(h:0≤n.kind∧n.kind≤255)(hs:n.set=.zero)(ht:n.text=⟨#[]⟩)(h1:n.min=0)(h2:n.max=0)(hk:n.kids=[]):n.wf:=by
 refine⟨h,by rw[hs];exact Nod.aV.set,by rw[ht];exact Nod.aV.text,by rw[h1];exact Nod.aV.min,by rw[h2];exact Nod.aV.max,by rw[hk];exact Nod.aV.kids⟩
theorem H9:iM.wf:=p7 (by decide) rfl rfl rfl rfl rfl
theorem kx:b5.wf:=p7 (by decide) rfl rfl rfl rfl rfl
theorem FZ:en.wf:=p7 (by decide) rfl rfl rfl rfl rfl
theorem Fo.Da{n:Nod}{K:Fo}(hn:({ n with kids:=[] }:Nod).wf)(hK:K.dwf):(Fo.put n K).dwf:=by
 unfold Fo.put
 split
 ·exact Fo.yx hn wD (Fo.jO (Fo.kB hK))
 ·split
  ·exact Fo.yx hn H9 (Fo.jO hK)
  ·exact⟨hn,hK,trivial⟩
theorem Fo.jy:∀{F:Fo},F.dwf→F.norm.dwf
 | .nil,h=>h
 | .cons m j r,h=>by
  rw[Fo.norm];exact(Fo.iV _ _).2 ⟨Fo.Da h.1 (Fo.jy h.2.1),Fo.jy h.2.2⟩
theorem Fo.sX(F:Fo):F.parts.size≤F.size:=OA (Fo.km _) (Fo.nY _)
theorem Fo.EF(F:Fo):F.ways.size≤F.size:=Fo.km _
theorem Fo.Ay(n:Nod)(K:Fo):(Fo.put n K).size≤K.size+1:=by
 unfold Fo.put
 split
 ·exact OA (Fo.ny _ _ _) (by have:=Fo.sX K;unfold Fo.parts at this;omega)
 ·split
  ·exact OA (Fo.ny _ _ _) (by have:=Fo.km (k:=5) K;omega)
  ·simp only[Fo.size];omega
theorem j8(F:Fo):(aR F).nodes.length=F.size:=Fo.cT F 0
theorem DT(t:Tre):(dU t).1.nodes.length≤t.nodes.length:=by
 cases h:ao t with
 | false=>rw[kn h];exact Oq _
 | true=>
  rw[dH h];show(aR _).nodes.length≤_
  rw[j8,←dF (ak h)];exact Fo.fc _
theorem Hz{t:Tre}(h:t.wf):(dU t).1.wf:=by
 cases hr:ao t with
 | false=>rw[kn hr];exact Tre.aV
 | true=>
  rw[dH hr];refine lr (Fo.jy (eS h.nodes _ _)) (OA (Fo.fc _) ?_);rw[dF (ak hr)];exact h.len
theorem pb(n:Nod)(l:List Tre):(eG n l).1.nodes.length≤tot l+1:=by
 cases h1:lM n l.length with
 | false=>rw[tu h1];exact Oq _
 | true=>
  cases h2:me l with
  | false=>rw[mg h2];exact Oq _
  | true=>
   rw[oZ h1 h2];show(aR _).nodes.length≤_
   rw[j8,←jI (eI.1 h2)];exact OA (Fo.Ay _ _) (Nat.succ_le_succ (Fo.fc _))
theorem Dh{n:Nod}{l:List Tre}(hn:n.wf)(hl:∀t∈l,t.wf)(ht:tot l+1≤b9):(eG n l).1.wf:=by
 cases h1:lM n l.length with
 | false=>rw[tu h1];exact Tre.aV
 | true=>
  cases h2:me l with
  | false=>rw[mg h2];exact Tre.aV
  | true=>
   rw[oZ h1 h2];refine lr (Fo.Da hn.wf0 (Fo.jy (se hl))) (OA (Fo.Ay _ _) ?_);have:=Fo.fc (foL l);rw[jI (eI.1 h2)] at this;omega
theorem zp:∀{F:Fo},F.dwf→F.size≤b9→∀x∈F.trees,x.wf
 | .nil,_,_,x,hx=>by simp[Fo.trees] at hx
 | .cons m j r,hd,hs,x,hx=>by
  simp only[Fo.size] at hs;rcases OD.1 hx with rfl|hx
  ·exact lr ⟨hd.1,hd.2.1,trivial⟩ (by simp only[Fo.size];omega)
  ·exact zp hd.2.2 (by omega) x hx
theorem jc:∀(F:Fo),tot F.trees=F.size
 | .nil=>rfl
 | .cons m j r=>by rw[Fo.trees,fE,jc r,j8];simp only[Fo.size]
theorem NT.tree{m:Nod}{j r:Fo}(h:(Fo.cons m j r).fb)(ho:(Fo.cons m j r).ok):NT (aR (.cons m j .nil)) (.cons m j .nil):=by
 have h':=Fo.aL.1 h;exact⟨rfl,rfl,Fo.aL.2 ⟨h'.1,Fo.fN⟩,ho.1,ho.2.1,ho.2.2.1,trivial⟩
theorem Jf(l m:List Tre):foL (l++m)=(foL l).app (foL m):=by
 induction l with
 | nil=>rfl
 | cons t l ih=>rw[List.cons_append,foL,foL,ih,Fo.zJ]
def eB(ns:List Nod)(n:Nod):Bool:=!(decide (n.kind=4)||decide (n.kind=5))||n.kids.all fun k=>!(decide (bj ns k=n.kind)||(decide (bj ns k=0)&&decide (n.kind=4)))
def dY(t:Tre):Bool:=ao t&&t.nodes.all (eB t.nodes)
theorem s7{t:Tre}(h:ao t=false):dY t=false:=by unfold dY;rw[h];rfl
def Fo.bV(k:Int):Fo→Fo
 | .nil=>.nil
 | .cons m j r=>if m.kind=k then (j.bV k).app (r.bV k) else if k=4∧m.kind=0 then r.bV k else .cons m j (r.bV k)
theorem Fo.uc{k:Int}:∀{F:Fo},F.noK k→(k=4→F.noK 0)→F.bV k=F
 | .nil,_,_=>rfl
 | .cons m j r,h,h0=>by
  simp only[Fo.bV];rw[if_neg h.1,if_neg (fun hh=>(h0 hh.1).1 hh.2),Fo.uc h.2 (fun hk=>(h0 hk).2)]
theorem Fo.rn:∀{F:Fo},F.ok→F.bV 4=F.parts
 | .nil,_=>rfl
 | .cons m j r,h=>by
  have ih:=Fo.rn h.2.2.2;unfold Fo.parts at ih ⊢;simp only[Fo.bV,Fo.cJ]
  by_cases h4:m.kind=4
  ·rw[if_pos h4,if_neg (by omega),ih];simp only[Fo.opn];rw[if_pos h4,Fo.uc (h.1 h4).1 (fun _=>(h.1 h4).2)]
  ·rw[if_neg h4]
   by_cases h0:m.kind=0
   ·rw[if_pos ⟨trivial,h0⟩,if_pos h0,ih]
   ·rw[if_neg (fun hh=>h0 hh.2),if_neg h0,ih];simp only[Fo.opn];rw[if_neg h4]
theorem Fo.sZ:∀{F:Fo},F.ok→F.bV 5=F.ways
 | .nil,_=>rfl
 | .cons m j r,h=>by
  have ih:=Fo.sZ h.2.2.2;unfold Fo.ways at ih ⊢;simp only[Fo.bV,Fo.opn]
  by_cases h5:m.kind=5
  ·rw[if_pos h5,if_pos h5,ih,Fo.uc (h.2.1 h5) (fun hk=>by omega)]
  ·rw[if_neg h5,if_neg (fun hh=>by omega),if_neg h5,ih]
theorem Fo.nk(k:Int):∀F G:Fo,(F.app G).bV k=(F.bV k).app (G.bV k)
 | .nil,_=>rfl
 | .cons m j r,G=>by
  simp only[Fo.app,Fo.bV]
  split
  ·rw[Fo.nk k r G,Fo.zJ]
  ·split
   ·exact Fo.nk k r G
   ·rw[Fo.nk k r G,Fo.app]
theorem Fo.ox{k:Int}:∀F:Fo,(F.bV k).size≤F.size
 | .nil=>Ov _
 | .cons m j r=>by
  have h1:=Fo.ox (k:=k) j;have h2:=Fo.ox (k:=k) r;simp only[Fo.bV]
  split
  ·rw[Fo.eo];simp only[Fo.size];omega
  ·split
   ·simp only[Fo.size];omega
   ·simp only[Fo.size];omega
theorem Fo.vx{k:Int}(F:Fo):(F.bV k).len≤F.size:=OA (Fo.oE _) (Fo.ox F)
theorem ID{n:Nod}{K:Fo}(hb:n.kids=[])(h4:n.kind≠4)(h5:n.kind≠5)(hK:K.fb):ofP n K.trees=if fits n K.len=true then (aR (Fo.put n K),true) else (.zero,false):=by
 have hl:K.trees.length=K.len:=Fo.bq K;obtain⟨h1,h2⟩:=ct hK.1 hK.2;have e:({ n with kids:=[] }:Nod)=n:=by rw[←hb]
 by_cases hf:fits n K.len=true
 ·rw[if_pos hf,oL (by rw[hl];exact hf) h1,h2,e];unfold Fo.put;rw[if_neg h4,if_neg h5]
 ·rw[if_neg hf,x6 (fun h=>hf (by rw[←hl];exact h.1))]
theorem yE{n:Nod}{P:Fo}(hb:n.kids=[])(hP:P.fb)(hf:fits n P.len=true)(e:Nod)(h2:2≤P.len):ofP n P.trees=(aR (Fo.join n e P),true):=by
 obtain⟨h1,h3⟩:=ct hP.1 hP.2;have e1:({ n with kids:=[] }:Nod)=n:=by rw[←hb]
 rw[oL (by rw[Fo.bq];exact hf) h1,h3,e1,Fo.eu _ _ h2]
def fC(n:Nod)(K:Fo):Tre×Bool:=if lM n K.len=true then (aR (Fo.put n K),true) else (.zero,false)
theorem D3{n:Nod}{l:List Tre}(h:me l=true):fC n (foL l).norm=eG n l:=by
 have h2:=(Im (eI.1 h)).2;unfold fC eG;rw[Fo.jt,h2,h,Qw]
theorem fU{t:Tre}(h:ao t=true):∃F,foT t=.cons (av t) F .nil∧F.fb∧(av t).kids=[]∧fits (av t) F.len=true∧ae t=F.trees:=by
 obtain⟨F,hF⟩:=CC h;have hfb:=(ov h).1;rw[hF] at hfb;obtain⟨⟨h1,h2,h3⟩,_⟩:=Fo.aL.1 hfb;exact⟨F,hF,h3,h2,h1,by rw[ae,if_pos h,hF];rfl⟩
theorem sR:∀{F:Fo},F.fb→F.trees.map (fun t=>(dU t).1)=F.norm.trees
 | .nil,_=>rfl
 | .cons m j r,h=>by
  have h':=Fo.aL.1 h;have hr:ao (aR (.cons m j .nil))=true:=jA rfl (Fo.aL.2 ⟨h'.1,Fo.fN⟩).1;rw[Fo.trees,OB,sR h'.2,dH hr,ib rfl (Fo.aL.2 ⟨h'.1,Fo.fN⟩).2,Fo.norm,Fo.norm,Fo.norm,Fo.nV];obtain⟨a,b,e⟩:=Fo.one (Fo.DN m j.norm);rw[e];rfl
theorem BW{t:Tre}{F:Fo}(h:ao t=true)(hF:foT t=.cons (av t) F .nil)(hfb:F.fb)(hk:(av t).kids=[])(hf:fits (av t) F.len=true):dU t=fC (av t) F.norm:=by
 have hK:lM (av t) F.norm.len=true:=by
  rw[Fo.jt];unfold lM
  split
  ·rename_i h45;rcases h45 with h4|h5
   ·rw[(dg hf h4 hk).1];rfl
   ·rw[(dd hf h5 hk).1];rfl
  ·exact hf
 rw[dH h,hF];unfold fC;rw[if_pos hK,Fo.norm,Fo.norm,Fo.nV]
theorem qP{t:Tre}{F:Fo}(h:ao t=true)(hF:foT t=.cons (av t) F .nil):F.size+1=t.nodes.length:=by
 rw[←dF (ak h),hF];simp only[Fo.size]
end Go.ab
end
section
namespace Go.Km
open Go Go.Vc Go.Proofs Go.ab
abbrev inF(k:Int):F:=.vl (.int .i64 k)
abbrev byF(k:Int):F:=.vl (.int .u8 k)
abbrev boF(b:Bool):F:=.vl (.bool b)
abbrev stF(s:ByteArray):F:=.vl (.string s)
abbrev ikF(k:Int):List F:=[inF k]
abbrev btF(b:Bts):List F:=[.vl (.int .u64 b.a),.vl (.int .u64 b.b),.vl (.int .u64 b.c),.vl (.int .u64 b.d)]
abbrev aT(n:Nod):List F:=[byF n.kind,.vl (.int .u64 n.set.a),.vl (.int .u64 n.set.b),.vl (.int .u64 n.set.c),.vl (.int .u64 n.set.d),stF n.text,inF n.min,inF n.max,.sl (n.kids.map ikF)]
abbrev fg(t:Tre):List F:=[.sl (t.nodes.map aT),inF t.root]
abbrev aw(t:Tre):F:=.ag (fg t)
abbrev dO(l:List Tre):F:=.sl (l.map fg)
abbrev isF(l:List Int):F:=.sl (l.map ikF)
instance:mb ikF 1:=⟨fun _=>rfl⟩
instance:mb aT 9:=⟨fun _=>rfl⟩
instance:mb fg 2:=⟨fun _=>rfl⟩
abbrev C(f:Nat)(l:List F)(r:F)(b:Bool)(pre:Prop):Prop:=KC Tryz.prog X1.Γ f l r b pre
theorem JV(s t:ByteArray):eqS s t=decide (s=t):=sV s t
end Go.Km
end
section
namespace Go.Proofs.YthebhpcjcihjgaaGreatDoor
open Go Go.Sl Go.RowKit
theorem Iv:(Tryz.prog.info? 5).map (fun i=>(i.zero,i.size,i.bytes))=some (some (.int .u8 0),1,1):=by kernel_rfl
theorem HX:Tryz.prog.cellsOf 5=1:=by kernel_rfl
set_option maxHeartbeats 4000000 in
set_option maxRecDepth 100000 in
theorem BZ(s:ByteArray)(w:World)(hlim:s.size≤281474976710656) :
  Calls Tryz.prog 146 #[.string s] w fun e w'=>e=.returned (.string s)∧Below w.heap.size w w':=by
 by_cases h0:s.size=0
 ·have hs:s=⟨#[]⟩:=by
   apply Qb;exact P6 h0
  subst hs
  go_enter Tryz.func146,Tryz.ntmps146
  go_wp2
  go_ret
  exact⟨rfl,Below.refl _ _⟩
 ·obtain⟨i0,hi,hz0,hz1,hz2⟩:=info_parts Iv;have hinfo:(Tryz.prog.info? 5).map (·.size)=some 1:=by rw[hi];simp[hz1]
  have hco:=HX;obtain⟨M,hM⟩:=exEq (madeCells (Value.int .u8 0).cells (((s.size:Nat):Int).toNat * i0.size));have hMs:M.size=s.size:=by rw[hM,size_madeCells,hz1];simp
  have hmk:∀W:World,(Instr.makeSlice 186 (.int .i64 (s.size:Int)) (.int .i64 (s.size:Int))).run Tryz.prog W=.ok (.slice (some ⟨W.heap.size,0,none⟩) s.size s.size) (W.alloc (.cells M 5)):=fun W=>by
   have h:=run_make (P:=Tryz.prog) W 186 5 i0 (.int .u8 0) Tryz.underlying186 hi hz0 .i64 .i64 (s.size:Int) (s.size:Int) (by omega) (by omega) (by rw[hz2];omega) (by omega);rw[←hM] at h;simpa using h
  clear hM;have hcp:=Lib.run_copy_row_string (P:=Tryz.prog) (w.alloc (.cells M 5)) 186 9 3 5 w.heap.size 0 s.size s.size s M 5 Tryz.underlying186 hinfo (heap_alloc_new w _) (Ov _) (by omega);obtain⟨Y,hY⟩:=exEq ((M.toList.take 0++Lib.byteCells s.data.toList++M.toList.drop (0+s.size)).toArray);rw[←hY] at hcp;have hYl:Y.toList=Lib.byteCells s.data.toList:=by
   rw[hY,List.toList_toArray,Pd,OH,OE (by rw[Array.length_toList];omega),Oj]
  have hYs:Y.size=s.size:=by rw[←Array.length_toList,hYl,Lib.byteCells_length,←Lib.size_eq]
  have hgY:((w.alloc (.cells M 5)).setRow w.heap.size Y).heap[w.heap.size]?=some (.cells Y 5 (0,0)):=setRow_heap _ _ M _ 5 (0,0) (heap_alloc_new w _);have hne:s.data.toList≠[]:=fun e=>h0 (by rw[Lib.size_eq,e];rfl)
  have hUS:=Lib.run_unsafeString_row (P:=Tryz.prog) ((w.alloc (.cells M 5)).setRow w.heap.size Y) 202 3 9 5 Tryz.underlying202 hco w.heap.size Y.size (by unfold World.shape?;rw[hgY]) s.data.toList hne (by rw[←Lib.size_eq];omega) (by rw[←Lib.size_eq];omega)
   (fun j x hx=>Lib.cells_of_row hgY Y.size j _ (by rw[Om (by rw[Array.length_toList];exact Ov _),hYl];simp[Lib.byteCells,hx]))
  rw[←Lib.size_eq] at hUS;clear hY
  go_enter Tryz.func146,Tryz.ntmps146
  go_wp2
  go_ret
  have hb1:Below w.heap.size w (w.alloc (.cells M 5)):=(Below.refl _ w).alloc (Ov _) _;have hb2:Below w.heap.size (w.alloc (.cells M 5)) ((w.alloc (.cells M 5)).setRow w.heap.size Y):=⟨rfl,rfl,rfl,by simp,fun k hk=>setRow_other _ _ _ _ (by omega)⟩
  exact⟨rfl,Lib.below_freeze (hb1.trans hb2) (p:=⟨w.heap.size,0,none⟩) (Ov _) _⟩
end Go.Proofs.YthebhpcjcihjgaaGreatDoor
namespace Go.Km
open Go Go.Vc Go.Proofs Go.ab Go.RowKit
open Go.Sl hiding lk
set_option maxRecDepth 100000
set_option maxHeartbeats 0
theorem px{Z:Nat→Prop}{w:World}:∀{l:List Value} {vs:List Value},F.aq Z w (l.map .vl) vs→vs=l
 | [],vs,h=>by simpa [F.aq] using h
 | v :: l,vs,h=>by
  rw[OB] at h;unfold F.aq at h;obtain⟨u,us,rfl,h1,h2⟩:=h;unfold F.rep at h1;rw[h1,px h2]
theorem Pure.ofV{P:Program}{Γ:Nat→Option (List F)}{f:FuncId}[hc:CF P f]{l:List Value}{v:Value}(H:∀w,Calls P f l.toArray w (fun e w'=>e=.returned v∧Below w.heap.size w w')):Pure P Γ f (l.map .vl) (.vl v) true:=
 ⟨hc,fun Z w vs hZ hG hr=>by
  rw[px hr];exact(H w).mono (fun e w' ⟨h1,h2⟩=>⟨v,h1,h2,by unfold F.rep;rfl⟩)⟩
instance(s:ByteArray):C 146 [stF s] (stF s) true (s.size≤281474976710656):=⟨fun h=>Pure.ofV (l:=[.string s]) fun w=>Go.Proofs.YthebhpcjcihjgaaGreatDoor.BZ s w h⟩
instance(s:ByteArray):C 127 [stF s] (stF s) true (s.size≤281474976710656):=⟨fun hs=>by
 refine kf rfl rfl ?_;repeat' (first|exact k9|refine k2 ?_|apply kA|apply kI;intro hc|refine k8 ?_|apply kL;intro hl)⟩
end Go.Km
end
section
namespace Go.Km
open Go Go.Vc Go.Proofs Go.ab
set_option maxRecDepth 100000
set_option maxHeartbeats 0
instance(b:Int):C 125 [byF b] (boF (jK b)) true True:=⟨fun _=>by
 refine kf rfl rfl ?_;repeat' first|exact k9|refine k2 ?_|apply kA|apply kI;intro hc|refine k8 ?_|apply kL;intro hl
 all_goals (refine aa.b ?_ rfl;rw[OV];simp[jK,dG];try omega)⟩
instance(b:Int):C 126 [byF b] (boF (ub b)) true True:=⟨fun _=>by
 refine kf rfl rfl ?_;repeat' first|exact k9|refine k2 ?_|apply kA|apply kI;intro hc|refine k8 ?_|apply kL;intro hl
 all_goals (refine aa.b ?_ rfl;rw[OV];simp[ub,ed];try omega)⟩
theorem sD{s:ByteArray}(h:0<s.size):mq s.data.toList=jK ((s.data.toList[0]'h).toNat:Int):=by
 have hz0:0<s.data.toList.length:=h;show mq s.data.toList=jK ((s.data.toList[0]'hz0).toNat:Int)
 generalize s.data.toList=l at hz0
 match l,hz0 with
 | b :: l,_=>rfl
theorem yF{s:ByteArray}{i:Nat}(h:i≤s.size):(gv s 0 i).size=i:=by
 rw[xS];simp[h]
theorem oS{s:ByteArray}{j:Nat}(hh:mq s.data.toList=true)(hj:j≤s.size)(hg:∀i b,i<j→s.data.toList[i]?=some b→gp b=true)(he:∀b,s.data.toList[j]?=some b→gp b=false):gv s 0 j=ij s:=by
 rw[xS,ij,if_pos hh,vN s.data.toList j hj hg he]
theorem CV{s:ByteArray}(h:mq s.data.toList=false):ij s=⟨#[]⟩:=by simp[ij,h]
instance(s:ByteArray):C 95 [stF s] (stF (ij s)) true (s.size≤281474976710656):=⟨fun hs=>by
 refine kf rfl rfl ?_;repeat' first|exact k9|refine k2 ?_|apply kA|apply kI;intro hc|refine k8 ?_|apply kL;intro hl
 ·refine aa.s ?_ rfl;rw[hc];rfl
 ·rename_i h0
  replace h0:=h0.2
  have hh:mq s.data.toList=true:=by rw[sD h0];exact hc
  apply kCt [0,3] [];conv=>whnf
  refine Lp.ind (fun j:Nat=>s.size - j) (fun j=>0<j∧j≤s.size∧∀i b,i<j→s.data.toList[i]?=some b→gp b=true) (fun j=>[(3,InD j)]) (fun _=>[]) (fun _=>(stF (ij s),true)) 1 ⟨by omega,by omega,fun i b hi hb=>?_⟩ rfl rfl rfl ?_
  ·have:i=0:=by omega
   subst this;rw[Oe h0] at hb
   cases hb;unfold gp;rw[hc];rfl
  rintro G j ih ⟨hj0,hj,hg⟩
  repeat' first|exact k9|refine k2 ?_|apply kA|apply kI;intro hc|refine k8 ?_|apply kL;intro hl
  ·rename_i hl;apply kCt [0,3] [];conv=>whnf
   refine ih (j+1) _ _ _ (by omega) ⟨by omega,by omega,fun i b hi hb=>?_⟩ rfl rfl rfl;rcases Pu i j with h1|h1
   ·exact hg i b h1 hb
   ·have:i=j:=by omega
    subst this;rw[Oe hl] at hb
    cases hb;unfold gp;rw[hc];rfl
  ·rename_i hl hc0 hl0;apply kCt [0,3] [];conv=>whnf
   refine ih (j+1) _ _ _ (by omega) ⟨by omega,by omega,fun i b hi hb=>?_⟩ rfl rfl rfl;rcases Pu i j with h1|h1
   ·exact hg i b h1 hb
   ·have:i=j:=by omega
    subst this;rw[Oe hl] at hb
    cases hb;unfold gp;rw[hc,Bool.or_true]
  ·exact⟨by rw[yF hj];omega⟩
  ·rename_i _ _ hc0;refine aa.s (oS hh hj hg fun b hb=>?_) rfl;rw[Oe hl] at hb
   cases hb;unfold gp;rw[hc,hc0];rfl
  ·exact⟨by rw[yF hj];omega⟩
  ·refine aa.s (oS hh hj hg fun b hb=>?_) rfl;rw[OG (by have:s.data.toList.length=s.size:=rfl;omega)] at hb
   cases hb
 ·rename_i h0
  replace h0:=h0.2
  refine aa.s ?_ rfl;rw[CV];rw[sD h0];exact hc⟩
instance(s:ByteArray):C 59 [stF s] (boF (gj s)) true (s.size≤281474976710656):=⟨fun hs=>by
 refine kf rfl rfl ?_;repeat' first|exact k9|refine k2 ?_|apply kA|apply kI;intro hc|refine k8 ?_|apply kL;intro hl
 ·exact aa.b (by rw[hc];rfl) rfl
 ·refine aa.b ?_ rfl;rename_i h0;rw[dG,jV,jV,y8,decide_eq_false (p:=s=⟨#[]⟩) h0.1,decide_eq_true (p:=(s.size:Int)≤32) hc];simp
 ·refine aa.b ?_ rfl;rw[y8,decide_eq_false (p:=(s.size:Int)≤32) (by omega)];simp⟩
set_option maxRecDepth 100000
set_option maxHeartbeats 0
theorem C3(kind sa sb sc sd:Int)(text:ByteArray)(lo hi:Int)(K:List (List F))(k:Int)(kids:List Int)(hk:0≤kind∧kind≤255)(ht:text.size≤140737488355328) :
  Pure Tryz.prog X1.Γ 71 [.ag [byF kind,.vl (.int .u64 sa),.vl (.int .u64 sb),.vl (.int .u64 sc),.vl (.int .u64 sd),stF text,inF lo,inF hi,.sl K],inF k] (boF (fits ⟨kind,⟨sa,sb,sc,sd⟩,text,lo,hi,kids⟩ k)) true:=by
 by_cases h10:10≤kind
 ·refine kf rfl rfl ?_;repeat' first|exact k9|refine k2 ?_|apply kA|apply kI;intro hc|refine k8 ?_|apply kL;intro hl
  refine aa.b ?_ rfl;unfold fits;simp only;rw[if_neg (by omega),if_neg (by omega),if_neg (by omega),if_neg (by omega),if_neg (by omega),if_neg (by omega),if_neg (by omega),if_neg (by omega)]
 ·have:kind=0∨kind=1∨kind=2∨kind=3∨kind=4∨kind=5∨kind=6∨kind=7∨kind=8∨kind=9:=by omega
  rcases this with rfl|rfl|rfl|rfl|rfl|rfl|rfl|rfl|rfl|rfl
  all_goals refine kf rfl rfl ?_
  all_goals repeat' first|exact k9|refine k2 ?_|apply kA|apply kI;intro hc|refine k8 ?_|apply kL;intro hl
  all_goals refine aa.b ?_ rfl
  all_goals clear hk h10
  all_goals simp_all [fits,dG,ed,mB,Bts.zero]
  all_goals try omega
instance(kind sa sb sc sd:Int)(text:ByteArray)(lo hi:Int)(K:List (List F))(k:Int):C 71 [.ag [byF kind,.vl (.int .u64 sa),.vl (.int .u64 sb),.vl (.int .u64 sc),.vl (.int .u64 sd),stF text,inF lo,inF hi,.sl K],inF k] (boF (fits ⟨kind,⟨sa,sb,sc,sd⟩,text,lo,hi,[]⟩ k)) true ((⟨kind,⟨sa,sb,sc,sd⟩,text,lo,hi,[]⟩:Nod).wf):=⟨fun h=>C3 kind sa sb sc sd text lo hi _ k [] h.kind (OA h.text (by decide))⟩
instance(n:Nod)(k:Int):C 71 [.ag (aT n),inF k] (boF (fits n k)) true (n.wf):=⟨fun h=>C3 n.kind n.set.a n.set.b n.set.c n.set.d n.text n.min n.max _ k n.kids h.kind (OA h.text (by decide))⟩
end Go.Km
end
