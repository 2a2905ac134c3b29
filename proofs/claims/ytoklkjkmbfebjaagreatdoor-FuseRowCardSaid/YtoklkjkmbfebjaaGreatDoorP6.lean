/- The texts that the card needs, part 7. -/
import Derived.Test.YtoklkjkmbfebjaaGreatDoorP5
set_option linter.all false
section
namespace Go.aa
open Go Go.Sl
def tH(b:Int):Bool:=decide (48≤b)&&decide (b≤57)
def iE(b:Int):Bool:=(decide (97≤b)&&decide (b≤122))||(decide (65≤b)&&decide (b≤90))||decide (b=95)
def fa(b:UInt8):Bool:=iE b.toNat||tH b.toNat
def runN(l:List UInt8):Nat:=(l.takeWhile fa).length
def ly:List UInt8→Bool
 | []=>false
 | b :: _=>iE b.toNat
def fQ(s:ByteArray):ByteArray:=if ly s.data.toList then s.extract 0 (runN s.data.toList) else ⟨#[]⟩
def gD(s:ByteArray):Bool:=decide (s.size≤32)&&ly s.data.toList&&s.data.toList.all fa
theorem JR(l:List UInt8):runN l≤l.length:=by
 unfold runN;exact List.Sublist.length_le (List.takeWhile_sublist _)
theorem vc:∀(l:List UInt8) (k:Nat),k≤l.length→(∀j b,j<k→l[j]?=some b→fa b=true)→(∀b,l[k]?=some b→fa b=false)→k=runN l
 | [],k,hk,_,_=>by simp at hk;subst hk;rfl
 | c :: l,0,_,_,h2=>by
  have:=h2 c (by simp);simp[runN,List.takeWhile,this]
 | c :: l,k+1,hk,h1,h2=>by
  have hc:=h1 0 c (by omega) (by simp);have ih:=vc l k (by simpa using hk) (fun j b hj hb=>h1 (j+1) b (by omega) (by simpa using hb)) (fun b hb=>h2 b (by simpa using hb));simp only[runN,List.takeWhile_cons,hc,if_true,List.length_cons];simp only[runN] at ih;omega
theorem Hn(l:List UInt8):(runN l=l.length)↔l.all fa=true:=by
 induction l with
 | nil=>simp[runN]
 | cons c l ih=>
  unfold runN at *;rw[List.takeWhile_cons]
  by_cases hc:fa c=true
  ·simp[hc];simpa using ih
  ·simp[hc]
theorem s8(s:ByteArray):(fQ s).size=if ly s.data.toList then runN s.data.toList else 0:=by
 unfold fQ;have:=JR s.data.toList;have hs:s.data.toList.length=s.size:=Array.length_toList
 split
 ·rw[ByteArray.size_extract];omega
 ·rfl
theorem Ay(s:ByteArray)(h:(fQ s).size=s.size)(hs:s≠⟨#[]⟩):fQ s=s:=by
 rw[s8] at h;have hs':s.data.toList.length=s.size:=Array.length_toList;unfold fQ
 split at h
 ·rename_i hh;rw[if_pos hh,h];apply ByteArray.ext;simp
 ·exact absurd (ByteArray.ext (Array.eq_empty_of_size_eq_zero h.symm)) hs
theorem C1(s:ByteArray):gD s=(!decide (s=⟨#[]⟩)&&decide (s.size≤32)&&decide ((fQ s).size=s.size)):=by
 unfold gD;have hs:s.data.toList.length=s.size:=Array.length_toList;rw[s8]
 by_cases he:s=⟨#[]⟩
 ·subst he;simp[ly]
 ·have hne:s.size≠0:=fun h=>he (ByteArray.ext (Array.eq_empty_of_size_eq_zero h))
  cases hh:ly s.data.toList with
  | false=>
   have:¬(0=s.size):=by omega
   simp[he,this]
  | true=>
   have:=Hn s.data.toList;rw[hs] at this
   by_cases hb:s.data.toList.all fa=true
   ·simp only[this.2 hb,hb,he];simp
   ·have h2:¬(runN s.data.toList=s.size):=fun h=>hb (this.1 h)
    have hb':s.data.toList.all fa=false:=by simpa using hb
    rw[hb'];simp[h2]
theorem tG(s:ByteArray):gD s=(!decide (s=⟨#[]⟩)&&decide (s.size≤32)&&decide (fQ s=s)):=by
 rw[C1]
 by_cases he:s=⟨#[]⟩
 ·simp[he]
 ·congr 1
  rw[decide_eq_decide];exact⟨fun h=>Ay s h he,fun h=>by rw[h]⟩
theorem yb(s:ByteArray):gD s=(!decide (s=⟨#[]⟩)&&decide ((s.size:Int)≤32)&&decide (((fQ s).size:Int)=(s.size:Int))):=by
 rw[C1]
 congr 1
 ·congr 1
  rw[decide_eq_decide];omega
 ·rw[decide_eq_decide];omega
theorem Eg(s:ByteArray):gD s=(!decide (s=⟨#[]⟩)&&decide ((s.size:Int)≤32)&&decide (fQ s=s)):=by
 rw[tG]
 congr 2
 rw[decide_eq_decide];omega
structure Bts where
 a:Int
 b:Int
 c:Int
 d:Int
deriving DecidableEq
structure Nod where
 kind:Int
 set:Bts
 text:ByteArray
 min:Int
 max:Int
 kids:List Int
deriving DecidableEq
structure Tre where
 nodes:List Nod
 root:Int
deriving DecidableEq
def Bts.zero:Bts:=⟨0,0,0,0⟩
def Nod.zero:Nod:=⟨0,.zero,⟨#[]⟩,0,0,[]⟩
def Tre.zero:Tre:=⟨[],0⟩
def counts:List (Int×Int):=[(0,0),(0,0),(0,0),(0,0),(2,-1),(2,-1),(1,1),(1,1),(1,1),(1,1)]
def fits(n:Nod)(kids:Int):Bool:=
 if n.kind=0 then decide (n.set=.zero)&&decide (n.text=⟨#[]⟩)&&decide (n.min=0)&&decide (n.max=0)&&decide (kids=0)
 else if n.kind=1 then decide (n.text=⟨#[]⟩)&&decide (n.min=0)&&decide (n.max=0)&&decide (kids=0)
 else if n.kind=2 then decide (n.set=.zero)&&decide (n.min=0)&&decide (n.max=0)&&decide (kids=0) && !decide (n.text=⟨#[]⟩)&&decide ((n.text.size:Int)≤255)
 else if n.kind=3 then decide (n.set=.zero)&&decide (n.min=0)&&decide (n.max=0)&&decide (kids=0)&&gD n.text
 else if n.kind=4∨n.kind=5 then decide (n.set=.zero)&&decide (n.text=⟨#[]⟩)&&decide (n.min=0)&&decide (n.max=0)&&decide (2≤kids)
 else if n.kind=6 then decide (n.set=.zero)&&decide (n.text=⟨#[]⟩)&&decide (kids=1)&&decide (0≤n.min)&&decide (n.min≤99)&&(decide (n.max=-1)||decide (n.min≤n.max)&&decide (n.max≤99))
 else if n.kind=7∨n.kind=8 then decide (n.set=.zero)&&decide (n.text=⟨#[]⟩)&&decide (n.min=0)&&decide (n.max=0)&&decide (kids=1)
 else if n.kind=9 then decide (n.set=.zero)&&decide (n.min=0)&&decide (n.max=0)&&decide (kids=1)&&gD n.text
 else false
def ax(l:List Nod):List Int:=l.flatMap (·.kids)
def Kt(i:Nat)(n:Nod):Bool:=fits n n.kids.length&&n.kids.all fun k=>decide (0≤k)&&decide (k<i)
def B8:Nat→List Nod→Bool
 | _,[]=>true
 | i,n :: l=>Kt i n&&B8 (i+1) l
def right(t:Tre):Bool:=
 decide (0≤t.root)&&decide (t.root<t.nodes.length)&&B8 0 t.nodes &&
  (List.range t.nodes.length).all fun i=>decide ((ax t.nodes).count (i:Int)=if (i:Int)=t.root then 0 else 1)
def bQ(i:Int):List Int→List Bool→Option (List Bool)
 | [],tk=>some tk
 | k :: l,tk=>if k<0∨i≤k∨tk.getD k.toNat false=true then none else bQ i l (tk.set k.toNat true)
def cc:Nat→List Nod→List Bool→Option (List Bool)
 | _,[],tk=>some tk
 | i,n :: l,tk=>if fits n n.kids.length=true then (bQ i n.kids tk).bind (cc (i+1) l) else none
def au(t:Tre):Bool:=
 decide (0≤t.root)&&decide (t.root<t.nodes.length)&&match cc 0 t.nodes (List.replicate t.nodes.length false) with
  | none=>false
  | some tk=>(List.range t.nodes.length).all fun i=>!(tk.getD i false==decide ((i:Int)=t.root))
theorem jZ(i:Int):∀(l:List Int) (tk tk':List Bool),bQ i l tk=some tk'→tk'.length=tk.length
 | [],tk,tk',h=>by simp[bQ] at h;rw[h]
 | k :: l,tk,tk',h=>by
  unfold bQ at h
  split at h
  ·cases h
  ·have:=jZ i l _ _ h;simpa using this
def mX(ns:List Nod)(k:Int):List Int:=match ns[k.toNat]? with
 | some n=>n.kids
 | none=>[]
def bw(ch:Int→List Int):Prop:=∀k,∀x∈ch k,0≤x∧x<k
def dfs(ch:Int→List Int):Nat→List Int→List Int
 | 0,_=>[]
 | f+1,l=>l.flatMap fun k=>k :: dfs ch f (ch k)
def iS(ch:Int→List Int):Nat→List Int→List Int
 | 0,_=>[]
 | f+1,l=>l.flatMap fun k=>iS ch f (ch k)++[k]
def ef(ch:Int→List Int)(k:Int):List Int:=(ch k).reverse
theorem bk(ch:Int→List Int)(f:Nat):dfs ch f []=[]:=by cases f<;>rfl
theorem yj(ch:Int→List Int)(f:Nat):iS ch f []=[]:=by cases f<;>rfl
theorem bl(ch:Int→List Int)(f:Nat)(l m:List Int):dfs ch f (l++m)=dfs ch f l++dfs ch f m:=by cases f<;>simp[dfs]
theorem bw.rev{ch:Int→List Int}(h:bw ch):bw (ef ch):=fun k x hx=>h k x (by simpa [ef] using hx)
theorem lE{ch:Int→List Int}(h:bw ch):∀(f g:Nat) (l:List Int),(∀k∈l,0≤k∧k<f)→(∀k∈l,k<g)→dfs ch f l=dfs ch g l
 | 0,g,l,hf,hg=>by
  cases l with
  | nil=>rw[bk,bk]
  | cons k l=>have:=hf k (by simp);omega
 | f+1,0,l,hf,hg=>by
  cases l with
  | nil=>rw[bk,bk]
  | cons k l=>
   have:=hf k (by simp);have:=hg k (by simp);omega
 | f+1,g+1,l,hf,hg=>by
  show l.flatMap _=l.flatMap _
  rw[List.flatMap_def,List.flatMap_def]
  congr 1
  apply List.map_congr_left;intro k hk;have h1:=hf k hk;have h2:=hg k hk;rw[lE h f g (ch k) (fun x hx=>⟨(h k x hx).1,by have:=(h k x hx).2;omega⟩) (fun x hx=>by have:=(h k x hx).2;omega)]
theorem aM{ch:Int→List Int}(h:bw ch){f:Nat}{k:Int}{l:List Int}(h0:0≤k)(hk:k<f):dfs ch f (k :: l)=k :: (dfs ch f (ch k)++dfs ch f l):=by
 cases f with
 | zero=>omega
 | succ f=>
  have e:dfs ch f (ch k)=dfs ch (f+1) (ch k):=lE h f (f+1) (ch k) (fun x hx=>⟨(h k x hx).1,by have:=(h k x hx).2;omega⟩) (fun x hx=>by have:=(h k x hx).2;omega);rw[←e];simp[dfs]
theorem oG(ch:Int→List Int):∀(f:Nat) (l:List Int),(dfs (ef ch) f l.reverse).reverse=iS ch f l
 | 0,l=>rfl
 | f+1,l=>by
  induction l with
  | nil=>rfl
  | cons k l ih=>
   rw[List.reverse_cons,bl,List.reverse_append,ih];have h1:=oG ch f (ch k);simp only[dfs,iS,List.flatMap_cons,List.flatMap_nil,List.append_nil,List.reverse_cons];rw[show ef ch k=(ch k).reverse from rfl,h1]
theorem dg{ch:Int→List Int}(f:Nat)(l:List Int)(hf:0<f):l.length≤(dfs ch f l).length:=by
 cases f with
 | zero=>omega
 | succ f=>
  induction l with
  | nil=>simp
  | cons k l ih=>
   simp only[dfs,List.flatMap_cons,List.length_append,List.length_cons] at ih ⊢;omega
theorem eo{ch:Int→List Int}:∀(f:Nat) (l:List Int),(dfs (ef ch) f l).length=(dfs ch f l).length
 | 0,l=>rfl
 | f+1,l=>by
  induction l with
  | nil=>rfl
  | cons k l ih=>
   simp only[dfs,List.flatMap_cons,List.length_append,List.length_cons] at ih ⊢;have h1:=eo (ch:=ch) f (ef ch k);have h2:∀(f:Nat) (m:List Int),(dfs ch f m.reverse).length=(dfs ch f m).length:=by
    intro f m
    induction m with
    | nil=>rfl
    | cons x m ihm=>rw[List.reverse_cons,bl,List.length_append,ihm,show x :: m=[x]++m from rfl,bl,List.length_append];omega
   rw[h1,show ef ch k=(ch k).reverse from rfl,h2,ih]
theorem bm{α:Type}(l:List α):l=[]∨∃init x,l=init++[x]:=by
 rcases List.eq_nil_or_concat l with h|⟨a,b,h⟩
 ·exact .inl h
 ·exact .inr ⟨a,b,by rw[h,List.concat_eq_append]⟩
def KOk(ns:List Nod):Prop:=∀(i:Nat) n,ns[i]?=some n→∀k∈n.kids,0≤k∧k<i
theorem KOk.ch{ns:List Nod}(h:KOk ns):bw (fun k=>if k<0 then [] else mX ns k):=by
 intro k x hx
 by_cases h0:k<0
 ·simp[h0] at hx
 ·simp only[h0,if_false,mX] at hx
  cases hn:ns[k.toNat]? with
  | none=>simp[hn] at hx
  | some n=>
   simp only[hn] at hx;have:=h _ _ hn x hx;omega
theorem y7(l:List Bool)(i j:Nat)(b:Bool)(hi:i<l.length):(l.set i b).getD j false=if i=j then b else l.getD j false:=by
 simp only[List.getD_eq_getElem?_getD,List.getElem?_set]
 by_cases h:i=j
 ·subst h;simp[hi]
 ·simp[h]
theorem iq(i:Int):∀(l:List Int) (tk tk':List Bool),i≤tk.length→bQ i l tk=some tk'→
  (∀k∈l,0≤k∧k<i)∧∀j:Nat,(tk'.getD j false).toNat=(tk.getD j false).toNat+l.count (j:Int)
 | [],tk,tk',_,h=>by simp[bQ] at h;subst h;simp
 | k :: l,tk,tk',hi,h=>by
  unfold bQ at h
  split at h
  ·cases h
  ·rename_i hc;have h0:0≤k∧k<i:=by omega
   have htk:tk.getD k.toNat false=false:=by
    cases hh:tk.getD k.toNat false with
    | false=>rfl
    | true=>exact absurd (.inr (.inr hh)) hc
   obtain⟨h1,h2⟩:=iq i l _ _ (by simpa using hi) h;refine⟨fun x hx=>?_,fun j=>?_⟩
   ·rcases List.mem_cons.1 hx with rfl|hx
    ·exact h0
    ·exact h1 x hx
   ·rw[h2 j,y7 _ _ _ _ (by omega),List.count_cons]
    by_cases hj:k.toNat=j
    ·subst hj;rw[if_pos rfl,htk];have:(k==((k.toNat:Nat):Int))=true:=by simp;omega
     rw[this];simp;omega
    ·rw[if_neg hj];have:(k==(j:Int))=false:=by simp;omega
     rw[this];simp
theorem gj:∀(l:List Nod) (i:Nat) (tk tk':List Bool),i+l.length≤tk.length→cc i l tk=some tk'→
  (∀(j:Nat) n,l[j]?=some n→fits n n.kids.length=true∧∀k∈n.kids,0≤k∧k<((i+j:Nat):Int))∧
   ∀j:Nat,(tk'.getD j false).toNat=(tk.getD j false).toNat+(ax l).count (j:Int)
 | [],i,tk,tk',_,h=>by simp[cc] at h;subst h;simp[ax]
 | n :: l,i,tk,tk',hi,h=>by
  unfold cc at h
  split at h
  ·rename_i hf;obtain⟨t1,ht1,h⟩:=Option.bind_eq_some_iff.1 h;simp only[List.length_cons] at hi;obtain⟨a1,a2⟩:=iq i n.kids tk t1 (by omega) ht1;have hl:=jZ i _ _ _ ht1;obtain⟨b1,b2⟩:=gj l (i+1) t1 tk' (by omega) h;refine⟨fun j m hj=>?_,fun j=>?_⟩
   ·cases j with
    | zero=>
     simp at hj;subst hj;exact⟨hf,fun k hk=>by have:=a1 k hk;omega⟩
    | succ j=>
     simp at hj;refine⟨(b1 j m hj).1,fun k hk=>?_⟩;have:=(b1 j m hj).2 k hk;omega
   ·rw[b2 j,a2 j];simp only[ax,List.flatMap_cons,List.count_append];omega
  ·cases h
structure aC(t:Tre):Prop where
 root:0≤t.root∧t.root<t.nodes.length
 fits:∀(i:Nat) n,t.nodes[i]?=some n→fits n n.kids.length=true
 kok:KOk t.nodes
 count:∀i:Nat,i<t.nodes.length→(ax t.nodes).count (i:Int)=if (i:Int)=t.root then 0 else 1
theorem aq{t:Tre}(h:au t=true):aC t:=by
 unfold au at h;simp only[Bool.and_eq_true,decide_eq_true_eq] at h;obtain⟨⟨h1,h2⟩,h3⟩:=h
 split at h3
 ·cases h3
 ·rename_i tk htk;obtain⟨a,b⟩:=gj t.nodes 0 _ _ (by simp) htk;refine⟨⟨h1,h2⟩,fun i n hi=>(a i n hi).1,fun i n hi k hk=>?_,fun i hi=>?_⟩
  ·have:=(a i n hi).2 k hk;omega
  ·have hb:=b i;rw[List.all_eq_true] at h3;have hc:=h3 i (by simpa using hi);rw[show(List.replicate t.nodes.length false).getD i false=false by simp[List.getD_eq_getElem?_getD,List.getElem?_replicate];split<;>rfl] at hb
   by_cases hr:(i:Int)=t.root
   ·rw[if_pos hr];simp only[hr,decide_true] at hc
    cases hv:tk.getD i false with
    | false=>rw[hv] at hb;simp at hb;omega
    | true=>rw[hv] at hc;simp at hc
   ·rw[if_neg hr];simp only[hr,decide_false] at hc
    cases hv:tk.getD i false with
    | false=>rw[hv] at hc;simp at hc
    | true=>rw[hv] at hb;simp at hb;omega
def ae(ns:List Nod)(k:Int):List Int:=if k<0 then [] else mX ns k
theorem KOk.ae{ns:List Nod}(h:KOk ns):bw (ae ns):=h.ch
theorem aI{ns:List Nod}{i:Nat}{n:Nod}(h:ns[i]?=some n):n.kids=ae ns i:=by
 have:¬((i:Int)<0):=by omega
 simp[ae,mX,h,this]
theorem DL{ns:List Nod}{k:Int}(h:(ns.length:Int)≤k):ae ns k=[]:=by
 unfold ae mX
 split
 ·rfl
 ·rw[List.getElem?_eq_none (by omega)]
theorem uA{ns:List Nod}:((List.range ns.length).map Int.ofNat).flatMap (ae ns)=ax ns:=by
 unfold ax;rw[List.flatMap_def,List.flatMap_def,List.map_map]
 congr 1
 apply List.ext_getElem?;intro i;rw[List.getElem?_map,List.getElem?_map]
 by_cases hi:i<ns.length
 ·rw[List.getElem?_range hi,List.getElem?_eq_getElem hi];simp only[Option.map_some,Function.comp];exact congrArg some (aI (List.getElem?_eq_getElem hi)).symm
 ·rw[List.getElem?_eq_none (by simpa using hi),List.getElem?_eq_none (by simpa using hi)];rfl
theorem vM{ch:Int→List Int}(hc:bw ch)(x:Int):∀(f:Nat) (l:List Int),(∀k∈l,0≤k∧k<f)→(dfs ch f l).count x=l.count x+((dfs ch f l).flatMap ch).count x
 | 0,l,h=>by
  cases l with
  | nil=>simp[dfs]
  | cons k l=>have:=h k (by simp);omega
 | f+1,l,h=>by
  induction l with
  | nil=>simp[dfs]
  | cons k l ih=>
   have ih:=ih (fun y hy=>h y (by simp[hy]));have hk:=h k (by simp);have h2:=vM hc x f (ch k) (fun y hy=>⟨(hc k y hy).1,by have:=(hc k y hy).2;omega⟩);simp only[dfs,List.flatMap_cons,List.count_append,List.count_cons,List.flatMap_append] at ih h2 ⊢;omega
theorem gE{ch:Int→List Int}(hc:bw ch):∀(f:Nat) (l:List Int),(∀k∈l,0≤k∧k<f)→∀x∈dfs ch f l,0≤x∧x<f
 | 0,l,h,x,hx=>by simp[dfs] at hx
 | f+1,l,h,x,hx=>by
  simp only[dfs,List.mem_flatMap,List.mem_cons] at hx;obtain⟨k,hk,rfl|hx⟩:=hx
  ·exact h x hk
  ·have hk:=h k hk;have:=gE hc f (ch k) (fun y hy=>⟨(hc k y hy).1,by have:=(hc k y hy).2;omega⟩) x hx;omega
theorem Jl{ch:Int→List Int}(f:Nat)(l:List Int)(hf:0<f):l.Sublist (dfs ch f l):=by
 cases f with
 | zero=>omega
 | succ f=>
  induction l with
  | nil=>simp
  | cons k l ih=>
   simp only[dfs,List.flatMap_cons] at ih ⊢;exact List.Sublist.cons_cons k (ih.trans (List.sublist_append_right _ _))
theorem CV{ch:Int→List Int}(hc:bw ch):∀(f:Nat) (l:List Int),(∀k∈l,0≤k∧k<f)→∀y∈dfs ch f l,(y :: ch y).Sublist (dfs ch f l)
 | 0,l,h,y,hy=>by simp[dfs] at hy
 | f+1,l,h,y,hy=>by
  simp only[dfs,List.mem_flatMap,List.mem_cons] at hy;obtain⟨k,hk,hy⟩:=hy;have hkf:=h k hk;have hin:(k :: dfs ch f (ch k)).Sublist (dfs ch (f+1) l):=by
   obtain⟨a,b,rfl⟩:=List.append_of_mem hk;simp only[dfs,List.flatMap_append,List.flatMap_cons];exact(List.sublist_append_left _ _).trans (List.sublist_append_right _ _)
  refine List.Sublist.trans ?_ hin;rcases hy with rfl|hy
  ·by_cases hf:0<f
   ·exact List.Sublist.cons_cons y (Jl f _ hf)
   ·have:ch y=[]:=by
     cases hy:ch y with
     | nil=>rfl
     | cons z l=>have:=hc y z (by rw[hy];simp);omega
    rw[this];simp
  ·exact(CV hc f (ch k) (fun z hz=>⟨(hc k z hz).1,by have:=(hc k z hz).2;omega⟩) y hy).cons k
def Bl(t:Tre):List Int:=dfs (ae t.nodes) t.nodes.length [t.root]
theorem nM(N:Nat)(x:Int):((List.range N).map Int.ofNat).count x=if 0≤x∧x<N then 1 else 0:=by
 have hnd:((List.range N).map Int.ofNat).Nodup:=by
  refine List.Pairwise.map _ (fun a b (h:a≠b)=>?_) List.nodup_range;exact fun e=>h (Int.ofNat.inj e)
 by_cases h:0≤x∧x<N
 ·rw[if_pos h,hnd.count,if_pos];refine List.mem_map.2 ⟨x.toNat,List.mem_range.2 (by omega),?_⟩;show((x.toNat:Nat):Int)=x
  omega
 ·rw[if_neg h];refine List.count_eq_zero.2 fun hm=>h ?_
  obtain⟨y,hy,rfl⟩:=List.mem_map.1 hm;have:=List.mem_range.1 hy;exact⟨Int.natCast_nonneg y,by show((y:Nat):Int)<N;omega⟩
theorem mo{t:Tre}(h:aC t):∀(d:Nat) (x:Int),0≤x→x<t.nodes.length→t.nodes.length≤x.toNat+d→(Bl t).count x=1
 | 0,x,h0,h1,h2=>by omega
 | d+1,x,h0,h1,h2=>by
  have hc:=h.kok.ae;have hl:∀k∈[t.root],0≤k∧k<(t.nodes.length:Int):=by
   intro k hk;simp at hk;subst hk;exact h.root
  have e:=vM hc x t.nodes.length [t.root] hl;have hf:∀D:List Int,(D.flatMap (ae t.nodes)).count x=((D.filter (fun y=>decide (x<y))).flatMap (ae t.nodes)).count x:=by
   intro D
   induction D with
   | nil=>rfl
   | cons y D ih=>
    rw[List.flatMap_cons,List.count_append,ih,List.filter_cons]
    by_cases hy:x<y
    ·simp[hy]
    ·simp only[hy,decide_false,Bool.false_eq_true,if_false];have:(ae t.nodes y).count x=0:=List.count_eq_zero.2 fun hm=>by have:=(hc y x hm).2;omega
     omega
  have hp:((dfs (ae t.nodes) t.nodes.length [t.root]).filter (fun y=>decide (x<y))).Perm (((List.range t.nodes.length).map Int.ofNat).filter (fun y=>decide (x<y))):=by
   rw[List.perm_iff_count];intro y
   by_cases hy:x<y
   ·rw[List.count_filter (by simpa using hy),List.count_filter (by simpa using hy),nM]
    by_cases hn:y<t.nodes.length
    ·rw[if_pos ⟨by omega,hn⟩];exact mo h d y (by omega) hn (by omega)
    ·rw[if_neg (by omega)];exact List.count_eq_zero.2 fun hm=>hn (gE hc _ _ hl y hm).2
   ·rw[List.count_eq_zero.2 (fun hm=>by have:=(List.mem_filter.1 hm).2;simp at this;omega),List.count_eq_zero.2 (fun hm=>by have:=(List.mem_filter.1 hm).2;simp at this;omega)]
  have e2:=(hp.flatMap_right (ae t.nodes)).count_eq x;rw[←hf,←hf,uA] at e2;have e3:=h.count x.toNat (by omega);rw[show((x.toNat:Nat):Int)=x by omega] at e3;unfold Bl;rw[e,e2,e3,List.count_cons,List.count_nil]
  by_cases hr:x=t.root
  ·subst hr;simp
  ·have:(t.root==x)=false:=by simp;omega
   simp[hr,this]
structure ND(t:Tre)(row:List Int):Prop where
 len:row.length=t.nodes.length
 head:row.head?=some t.root
 nodup:row.Nodup
 mem:∀x,x∈row↔0≤x∧x<t.nodes.length
 kids:∀(i:Nat) n,t.nodes[i]?=some n→((i:Int) :: n.kids).Sublist row
theorem wi{t:Tre}(h:aC t):ND t (Bl t):=by
 have hc:=h.kok.ae;have hl:∀k∈[t.root],0≤k∧k<(t.nodes.length:Int):=by
  intro k hk;simp at hk;subst hk;exact h.root
 have hmem:∀x,x∈Bl t↔0≤x∧x<t.nodes.length:=by
  intro x;refine⟨fun hx=>gE hc _ _ hl x hx,fun hx=>?_⟩;have:=mo h t.nodes.length x hx.1 hx.2 (by omega);exact List.count_pos_iff.1 (by omega)
 have hp:(Bl t).Perm ((List.range t.nodes.length).map Int.ofNat):=by
  rw[List.perm_iff_count];intro y;rw[nM]
  by_cases hy:0≤y∧y<t.nodes.length
  ·rw[if_pos hy];exact mo h t.nodes.length y hy.1 hy.2 (by omega)
  ·rw[if_neg hy];exact List.count_eq_zero.2 fun hm=>hy ((hmem y).1 hm)
 refine⟨by rw[hp.length_eq];simp,?_,?_,hmem,fun i n hn=>?_⟩
 ·unfold Bl;rw[aM hc h.root.1 h.root.2];rfl
 ·rw[hp.nodup_iff];refine List.Pairwise.map _ (fun a b (h:a≠b)=>?_) List.nodup_range;exact fun e=>h (Int.ofNat.inj e)
 ·have hi:=(List.getElem?_eq_some_iff.1 hn).1;rw[aI hn];exact CV hc _ _ hl i ((hmem i).2 ⟨by omega,by omega⟩)
def aQ(t:Tre)(node:Int):List Int:=iS (ae t.nodes) t.nodes.length [node]
def bb(ns:List Nod):Nat→List Int→List Int→List Nod
 | _,_,[]=>[]
 | i,place,k :: l=>
  { ns.getD k.toNat .zero with kids:=(ns.getD k.toNat .zero).kids.map fun x=>(place.set k.toNat i).getD x.toNat 0 } :: bb ns (i+1) (place.set k.toNat i) l
def aD(t:Tre)(node:Int):Tre:=⟨bb t.nodes 0 (List.replicate t.nodes.length 0) (aQ t node),(aQ t node).length - 1⟩
def bK(ns:List Nod)(by_:Int):List Nod:=ns.map fun n=>{ n with kids:=n.kids.map (· + by_) }
def iM:List Tre→List Nod→List Int→Option (List Nod×List Int)
 | [],a,l=>some (a,l)
 | k :: ks,a,l=>if au k=true then iM ks (a++bK (aD k k.root).nodes a.length) (l++[((a.length+(aD k k.root).nodes.length:Nat):Int) - 1]) else none
def ofP(n:Nod)(kids:List Tre):Tre×Bool:=
 if fits n kids.length=true then match iM kids [] [] with
  | some (a,l)=>(⟨a++[{ n with kids:=l }],a.length⟩,true)
  | none=>(.zero,false)
 else (.zero,false)
def aT(t:Tre):Tre:=if au t=true then aD t t.root else .zero
def zK(a b:Tre):Bool:=decide (a.nodes.length=b.nodes.length)&&au a&&au b&&decide ((aD a a.root).nodes=(aD b b.root).nodes)
def sD(t:Tre):Int:=if au t=true then t.nodes.length else 0
def iY(deep:List Int)(d:Int):List Int→Int
 | []=>d
 | k :: l=>iY deep (max d (deep.getD k.toNat 0)) l
def np:List Nod→List Int→List Int
 | [],deep=>deep
 | n :: l,deep=>np l (deep++[iY deep 0 n.kids+1])
def nP(t:Tre):Int:=if au t=true then (np t.nodes []).getD t.root.toNat 0 else 0
def qY(t:Tre):Bool:=decide (t.nodes.length≤1024)&&au t&&decide (nP t≤32)
def oP(n:Nod):Tre:=⟨[n],0⟩
def dU:Nod:=⟨0,.zero,⟨#[]⟩,0,0,[]⟩
theorem ti(ch:Int→List Int):∀(f:Nat) (l:List Int) (x:Int),(iS ch f l).count x=(dfs ch f l).count x
 | 0,l,x=>rfl
 | f+1,l,x=>by
  induction l with
  | nil=>rfl
  | cons k l ih=>
   simp only[dfs,iS,List.flatMap_cons,List.count_append,List.count_cons,List.count_nil] at ih ⊢;have:=ti ch f (ch k) x;omega
theorem cU(ch:Int→List Int)(f:Nat)(l:List Int):(iS ch f l).Perm (dfs ch f l):=List.perm_iff_count.2 (ti ch f l)
theorem ij(ns:List Nod):∀(l:List Int) (i:Nat) (pl:List Int),(bb ns i pl l).length=l.length
 | [],_,_=>rfl
 | k :: l,i,pl=>by simp[bb,ij ns l]
theorem gX{ch:Int→List Int}(hc:bw ch)(f:Nat):∀(m:Nat) (l:List Int),(∀k∈l,0≤k∧k<m)→m≤f→∀y∈dfs ch f l,(dfs ch f [y]).length≤(dfs ch f l).length
 | 0,l,h,hf,y,hy=>by
  cases l with
  | nil=>rw[bk] at hy;cases hy
  | cons k l=>have:=h k (by simp);omega
 | m+1,l,h,hf,y,hy=>by
  induction l with
  | nil=>rw[bk] at hy;cases hy
  | cons k l ih=>
   have hk:=h k (by simp);rw[aM hc hk.1 (by omega)] at hy ⊢;have ih:=ih (fun z hz=>h z (by simp[hz]));simp only[List.length_cons,List.length_append];rcases List.mem_cons.1 hy with rfl|hy
   ·rw[aM hc hk.1 (by omega),bk];simp
   ·rcases List.mem_append.1 hy with hy|hy
    ·have:=gX hc f m (ch k) (fun z hz=>⟨(hc k z hz).1,by have:=(hc k z hz).2;omega⟩) (by omega) y hy;omega
    ·have:=ih hy;omega
theorem LA{t:Tre}(h:aC t){node:Int}(h0:0≤node)(hn:node<t.nodes.length):(dfs (ae t.nodes) t.nodes.length [node]).length≤t.nodes.length:=by
 have hr:=wi h;have:=gX h.kok.ae t.nodes.length t.nodes.length [t.root] (by intro k hk;simp at hk;subst hk;exact h.root) (Nat.le_refl _) node ((hr.mem node).2 ⟨h0,hn⟩);have e:(dfs (ae t.nodes) t.nodes.length [t.root]).length=t.nodes.length:=hr.len;omega
theorem fj{t:Tre}(h:aC t){node:Int}(h0:0≤node)(hn:node<t.nodes.length):(aQ t node).length≤t.nodes.length:=by
 rw[aQ,(cU _ _ _).length_eq];exact LA h h0 hn
theorem sR{t:Tre}(h:aC t){node:Int}(h0:0≤node)(hn:node<t.nodes.length):∀x∈aQ t node,0≤x∧x<t.nodes.length:=by
 intro x hx;rw[aQ,(cU _ _ _).mem_iff] at hx;exact gE h.kok.ae _ _ (by intro k hk;simp at hk;subst hk;exact⟨h0,hn⟩) x hx
inductive Fo where
 | nil
 | cons (n:Nod) (k r:Fo)
deriving DecidableEq
def Fo.size:Fo→Nat
 | nil=>0
 | cons _ k r=>k.size+1+r.size
def Fo.len:Fo→Nat
 | nil=>0
 | cons _ _ r=>r.len+1
def Fo.bB:Nat→Fo→List Int
 | _,nil=>[]
 | o,cons _ k r=>((o+k.size:Nat):Int) :: r.bB (o+k.size+1)
def Fo.ar:Nat→Fo→List Nod
 | _,nil=>[]
 | o,cons n k r=>k.ar o++{ n with kids:=k.bB o } :: r.ar (o+k.size+1)
def Fo.fit:Fo→Bool
 | nil=>true
 | cons n k r=>fits n k.len&&k.fit&&r.fit
def Fo.bare:Fo→Prop
 | nil=>True
 | cons n k r=>n.kids=[]∧k.bare∧r.bare
def Fo.depth:Fo→Int
 | nil=>0
 | cons _ k r=>max (k.depth+1) r.depth
def Fo.app:Fo→Fo→Fo
 | nil,g=>g
 | cons n k r,g=>cons n k (r.app g)
def dat(ns:List Nod)(k:Int):Nod:={ ns.getD k.toNat .zero with kids:=[] }
def aE(ns:List Nod):Nat→List Int→Fo
 | 0,_=>.nil
 | f+1,l=>l.foldr (fun k r=>.cons (dat ns k) (aE ns f (ae ns k)) r) .nil
def foT(t:Tre):Fo:=aE t.nodes t.nodes.length [t.root]
def cP(F:Fo):Tre:=⟨F.ar 0,(F.size:Int) - 1⟩
theorem mb(n:Nod)(ks:List Int)(c:Int):fits { n with kids:=ks } c=fits n c:=rfl
theorem ay(ns:List Nod)(f:Nat):aE ns f []=.nil:=by cases f<;>rfl
theorem aL(ns:List Nod)(f:Nat)(k:Int)(l:List Int):aE ns (f+1) (k :: l)=.cons (dat ns k) (aE ns f (ae ns k)) (aE ns (f+1) l):=rfl
theorem Fo.cC:∀(F:Fo) (o:Nat),(F.ar o).length=F.size
 | nil,_=>rfl
 | cons n k r,o=>by simp[ar,size,cC k,cC r];omega
theorem Fo.jj:∀(F:Fo) (o:Nat),(F.bB o).length=F.len
 | nil,_=>rfl
 | cons n k r,o=>by simp[bB,len,jj r]
theorem Fo.sm:∀(F:Fo) (o:Nat),∀x∈F.bB o,(o:Int)≤x∧x<((o+F.size:Nat):Int)
 | nil,_,x,h=>by simp[bB] at h
 | cons n k r,o,x,h=>by
  simp only[bB,List.mem_cons] at h;simp only[size];rcases h with rfl|h
  ·omega
  ·have:=sm r _ x h;omega
theorem vw(ns:List Nod):∀(f:Nat) (l:List Int),(aE ns f l).bare
 | 0,l=>trivial
 | f+1,l=>by
  induction l with
  | nil=>exact trivial
  | cons k l ih=>exact⟨rfl,vw ns f _,ih⟩
theorem zW(ns:List Nod):∀(f:Nat) (l:List Int),0<f→(aE ns f l).len=l.length
 | 0,l,h=>by omega
 | f+1,l,h=>by
  induction l with
  | nil=>rfl
  | cons k l ih=>rw[aL,Fo.len,ih];rfl
theorem dQ{ns:List Nod}(h:bw (ae ns)):∀(f g:Nat) (l:List Int),(∀k∈l,0≤k∧k<f)→(∀k∈l,k<g)→aE ns f l=aE ns g l
 | 0,g,l,hf,hg=>by
  cases l with
  | nil=>rw[ay,ay]
  | cons k l=>have:=hf k (by simp);omega
 | f+1,0,l,hf,hg=>by
  cases l with
  | nil=>rw[ay,ay]
  | cons k l=>
   have:=hf k (by simp);have:=hg k (by simp);omega
 | f+1,g+1,l,hf,hg=>by
  induction l with
  | nil=>rfl
  | cons k l ih=>
   have h1:=hf k (by simp);have h2:=hg k (by simp);rw[aL,aL,ih (fun x hx=>hf x (by simp[hx])) (fun x hx=>hg x (by simp[hx])),
    dQ h f g (ae ns k) (fun x hx=>⟨(h k x hx).1,by have:=(h k x hx).2;omega⟩) (fun x hx=>by have:=(h k x hx).2;omega)]
theorem qf(l:List Int)(i j:Nat)(b:Int):(l.set i b).getD j 0=if i=j∧i<l.length then b else l.getD j 0:=by
 simp only[List.getD_eq_getElem?_getD,List.getElem?_set]
 by_cases h:i=j
 ·subst h
  by_cases hl:i<l.length
  ·simp[hl]
  ·simp[hl]
 ·simp[h]
theorem jM{ns:List Nod}(hc:bw (ae ns)):∀(f:Nat) (l:List Int) (i:Nat) (pl rest:List Int),(∀k∈l,0≤k∧k<f)→f≤ns.length→pl.length=ns.length→(iS (ae ns) f l).Nodup→
  ∃pl':List Int,pl'.length=ns.length∧bb ns i pl (iS (ae ns) f l++rest)=(aE ns f l).ar i++bb ns (i+(aE ns f l).size) pl' rest∧
   (l.map fun x=>pl'.getD x.toNat 0)=(aE ns f l).bB i∧∀x:Int,0≤x→x ∉ iS (ae ns) f l→pl'.getD x.toNat 0=pl.getD x.toNat 0
 | 0,l,i,pl,rest,hl,hf,hp,hn=>by
  cases l with
  | nil=>exact⟨pl,hp,by simp[yj,ay,Fo.ar,Fo.size],rfl,fun _ _ _=>rfl⟩
  | cons k l=>have:=hl k (by simp);omega
 | f+1,[],i,pl,rest,hl,hf,hp,hn=>⟨pl,hp,by simp[yj,ay,Fo.ar,Fo.size],rfl,fun _ _ _=>rfl⟩
 | f+1,k :: l,i,pl,rest,hl,hf,hp,hn=>by
  have hk:=hl k (by simp);have hchk:∀x∈ae ns k,0≤x∧x<(f:Int):=fun x hx=>⟨(hc k x hx).1,by have:=(hc k x hx).2;omega⟩
  have e:iS (ae ns) (f+1) (k :: l)=iS (ae ns) f (ae ns k)++(k :: iS (ae ns) (f+1) l):=by simp[iS]
  rw[e] at hn ⊢;obtain⟨n1,n2,n3⟩:=List.nodup_append.1 hn;obtain⟨n4,n5⟩:=List.nodup_cons.1 n2;obtain⟨p1,q1,q2,q3,q4⟩:=jM hc f (ae ns k) i pl (k :: iS (ae ns) (f+1) l++rest) hchk (by omega) hp n1;have hkl:k.toNat<p1.length:=by omega
  obtain⟨p2,r1,r2,r3,r4⟩:=jM hc (f+1) l (i+(aE ns f (ae ns k)).size+1) (p1.set k.toNat ((i+(aE ns f (ae ns k)).size:Nat):Int)) rest (fun x hx=>hl x (by simp[hx])) hf (by simpa using q1) n5;have hkd:ns.getD k.toNat .zero={ dat ns k with kids:=ae ns k }:=by
   have:k.toNat<ns.length:=by omega
   have h2:=List.getElem?_eq_getElem this;have h3:=aI h2;rw[show((k.toNat:Nat):Int)=k by omega] at h3;simp only[dat,List.getD_eq_getElem?_getD,h2,Option.getD_some];rw[←h3]
  have hks:(ae ns k).map (fun x=>(p1.set k.toNat ((i+(aE ns f (ae ns k)).size:Nat):Int)).getD x.toNat 0)=(aE ns f (ae ns k)).bB i:=by
   rw[←q3];apply List.map_congr_left;intro x hx;have:=hchk x hx;have:=(hc k x hx).2;rw[qf,if_neg (by omega)]
  refine⟨p2,r1,?_,?_,?_⟩
  ·rw[List.append_assoc,q2];simp only[List.cons_append,bb];rw[r2,hkd,aL];simp only[Fo.ar,Fo.size,hks,List.append_assoc,List.cons_append];rw[show i+((aE ns f (ae ns k)).size+1+(aE ns (f+1) l).size)=i+(aE ns f (ae ns k)).size+1+(aE ns (f+1) l).size by omega]
  ·rw[aL,Fo.bB,List.map_cons,r3,r4 k hk.1 n4,qf,if_pos ⟨rfl,hkl⟩]
  ·intro x h0 hx;simp only[List.mem_append,List.mem_cons,not_or] at hx;rw[r4 x h0 hx.2.2,qf,if_neg (by omega),q4 x h0 hx.1]
theorem iZ(ns:List Nod):∀(f:Nat) (l:List Int),(aE ns f l).size=(iS (ae ns) f l).length
 | 0,l=>rfl
 | f+1,l=>by
  induction l with
  | nil=>rfl
  | cons k l ih=>
   rw[aL,Fo.size,ih,iZ ns f];simp[iS];omega
theorem wK{t:Tre}(h:aC t){node:Int}(h0:0≤node)(hn:node<t.nodes.length):(iS (ae t.nodes) t.nodes.length [node]).Nodup:=by
 rw[(cU _ _ _).nodup_iff];have hr:=wi h;have key:∀(m:Nat) (l:List Int),(∀k∈l,0≤k∧k<m)→m≤t.nodes.length→(dfs (ae t.nodes) t.nodes.length l).Nodup→∀y∈dfs (ae t.nodes) t.nodes.length l,(dfs (ae t.nodes) t.nodes.length [y]).Nodup:=by
  intro m
  induction m with
  | zero=>
   intro l hl _ _ y hy
   cases l with
   | nil=>rw[bk] at hy;cases hy
   | cons k l=>have:=hl k (by simp);omega
  | succ m ihm=>
   intro l hl hm hnd y hy
   induction l with
   | nil=>rw[bk] at hy;cases hy
   | cons k l ih=>
    have hk:=hl k (by simp);rw[aM h.kok.ae hk.1 (by omega)] at hy hnd;obtain⟨a1,a2⟩:=List.nodup_cons.1 hnd;obtain⟨b1,b2,b3⟩:=List.nodup_append.1 a2;rcases List.mem_cons.1 hy with rfl|hy
    ·rw[aM h.kok.ae hk.1 (by omega),bk,List.append_nil];exact List.nodup_cons.2 ⟨fun hh=>a1 (by simp[hh]),b1⟩
    ·rcases List.mem_append.1 hy with hy|hy
     ·exact ihm (ae t.nodes k) (fun x hx=>⟨(h.kok.ae k x hx).1,by have:=(h.kok.ae k x hx).2;omega⟩) (by omega) b1 y hy
     ·exact ih (fun x hx=>hl x (by simp[hx])) b2 hy
 exact key t.nodes.length [t.root] (by intro k hk;simp at hk;subst hk;exact h.root) (Nat.le_refl _) hr.nodup node ((hr.mem node).2 ⟨h0,hn⟩)
theorem EC{t:Tre}(h:aC t){node:Int}(h0:0≤node)(hn:node<t.nodes.length):aD t node=cP (aE t.nodes t.nodes.length [node]):=by
 obtain⟨pl,h1,h2,h3,h4⟩:=jM h.kok.ae t.nodes.length [node] 0 (List.replicate t.nodes.length 0) [] (by intro k hk;simp at hk;subst hk;exact⟨h0,hn⟩) (Nat.le_refl _) (by simp) (wK h h0 hn);unfold aD cP aQ;rw[iZ];simp only[List.append_nil] at h2;rw[h2];simp[bb]
theorem wJ:∀(F:Fo),F.bare→∀(f:Nat) (pre post:List Nod),pre.length+F.size≤f→aE (pre++(F.ar pre.length++post)) f (F.bB pre.length)=F
 | .nil,_,f,pre,post,_=>by simp[Fo.bB,ay]
 | .cons n k r,hb,0,pre,post,hf=>by simp[Fo.size] at hf
 | .cons n k r,hb,f+1,pre,post,hf=>by
  obtain⟨b1,b2,b3⟩:=hb;simp only[Fo.size] at hf;have ek:=wJ k b2 f pre ({ n with kids:=k.bB pre.length } :: r.ar (pre.length+k.size+1)++post) (by omega);have el:(pre++(k.ar pre.length++[{ n with kids:=k.bB pre.length }])).length=pre.length+k.size+1:=by simp[Fo.cC];omega
  have er:=wJ r b3 (f+1) (pre++(k.ar pre.length++[{ n with kids:=k.bB pre.length }])) post (by rw[el];omega);rw[el] at er;have e1:pre++((Fo.cons n k r).ar pre.length++post)=pre++(k.ar pre.length++({ n with kids:=k.bB pre.length } :: r.ar (pre.length+k.size+1)++post)):=by simp[Fo.ar]
  have e2:pre++((Fo.cons n k r).ar pre.length++post)=pre++(k.ar pre.length++[{ n with kids:=k.bB pre.length }])++(r.ar (pre.length+k.size+1)++post):=by simp[Fo.ar]
  rw[←e1] at ek;rw[←e2] at er;have hget:(pre++((Fo.cons n k r).ar pre.length++post))[pre.length+k.size]?=some { n with kids:=k.bB pre.length }:=by
   rw[e1,List.getElem?_append_right (by omega),Nat.add_sub_cancel_left,List.getElem?_append_right (by rw[Fo.cC];omega),Fo.cC,Nat.sub_self];rfl
  have hch:=aI hget;simp only at hch;rw[Fo.bB,aL,er,←hch,ek]
  congr 1
  simp only[dat,Int.toNat_natCast,List.getD_eq_getElem?_getD,hget,Option.getD_some];rw[←b1]
theorem pb{n:Nod}{k:Fo}(hb:(Fo.cons n k .nil).bare):foT (cP (.cons n k .nil))=.cons n k .nil:=by
 have h:=wJ (.cons n k .nil) hb ((Fo.cons n k .nil).ar 0).length [] [] (by simp[Fo.cC]);simp only[List.length_nil,List.nil_append,List.append_nil] at h;unfold foT cP;simp only;conv=>rhs;rw[←h]
 congr 1
 simp only[Fo.bB,Fo.size]
 congr 1
 omega
theorem mK(i:Int):∀(l:List Int) (tk:List Bool),i≤tk.length→(∀k∈l,0≤k∧k<i)→(∀j:Nat,(tk.getD j false).toNat+l.count (j:Int)≤1)→∃tk',bQ i l tk=some tk'
 | [],tk,_,_,_=>⟨tk,rfl⟩
 | k :: l,tk,hi,hk,hc=>by
  have h0:=hk k (by simp);have hck:=hc k.toNat;rw[show((k.toNat:Nat):Int)=k by omega,List.count_cons,beq_self_eq_true,if_pos rfl] at hck;have htk:tk.getD k.toNat false=false:=by
   cases hh:tk.getD k.toNat false with
   | false=>rfl
   | true=>rw[hh] at hck;simp at hck;omega
  unfold bQ;rw[if_neg (by rw[htk];simp;omega)];refine mK i l _ (by simpa using hi) (fun x hx=>hk x (by simp[hx])) (fun j=>?_);have hcj:=hc j;rw[y7 _ _ _ _ (by omega)];rw[List.count_cons] at hcj
  by_cases hj:k.toNat=j
  ·subst hj;rw[if_pos rfl];rw[show((k.toNat:Nat):Int)=k by omega] at hcj ⊢;simp at hcj ⊢;omega
  ·rw[if_neg hj];have:(k==(j:Int))=false:=by simp;omega
   rw[this] at hcj;simpa using hcj
def NOk(i:Nat)(l:List Nod):Prop:=∀(j:Nat) n,l[j]?=some n→fits n n.kids.length=true∧∀k∈n.kids,0≤k∧k<((i+j:Nat):Int)
theorem kY:∀(l:List Nod) (i:Nat) (tk:List Bool),i+l.length≤tk.length→NOk i l→(∀j:Nat,(tk.getD j false).toNat+(ax l).count (j:Int)≤1)→∃tk',cc i l tk=some tk'
 | [],i,tk,_,_,_=>⟨tk,rfl⟩
 | n :: l,i,tk,hi,hn,hc=>by
  simp only[List.length_cons] at hi;have h0:=hn 0 n rfl;simp only[ax,List.flatMap_cons,List.count_append] at hc;obtain⟨t1,ht1⟩:=mK i n.kids tk (by omega) (fun k hk=>by have:=h0.2 k hk;omega) (fun j=>by have:=hc j;omega);have hl:=jZ i _ _ _ ht1;obtain⟨_,a2⟩:=iq i n.kids tk t1 (by omega) ht1;obtain⟨t2,ht2⟩:=kY l (i+1) t1 (by omega) (fun j m hj=>⟨(hn (j+1) m (by simpa using hj)).1,fun k hk=>by have:=(hn (j+1) m (by simpa using hj)).2 k hk;omega⟩)
   (fun j=>by rw[a2 j];have:=hc j;simp only[ax];omega)
  refine⟨t2,?_⟩;unfold cc;rw[if_pos h0.1,ht1];exact ht2
theorem qp{t:Tre}(hr:0≤t.root∧t.root<t.nodes.length)(hn:NOk 0 t.nodes)(hc:∀i:Nat,i<t.nodes.length→(ax t.nodes).count (i:Int)=if (i:Int)=t.root then 0 else 1):au t=true:=by
 have hz:∀j,(List.replicate t.nodes.length false).getD j false=false:=fun j=>by simp[List.getD_eq_getElem?_getD,List.getElem?_replicate];split<;>rfl
 have hle:∀j:Nat,(ax t.nodes).count (j:Int)≤1:=by
  intro j
  by_cases hj:j<t.nodes.length
  ·rw[hc j hj];split<;>omega
  ·rw[List.count_eq_zero.2]
   ·omega
   ·intro hm;obtain⟨n,hn1,hn2⟩:=List.mem_flatMap.1 hm;obtain⟨i,hi⟩:=List.mem_iff_getElem?.1 hn1;have:=(hn i n hi).2 _ hn2;have:=(List.getElem?_eq_some_iff.1 hi).1;omega
 obtain⟨tk,htk⟩:=kY t.nodes 0 (List.replicate t.nodes.length false) (by simp) hn (fun j=>by rw[hz];have:=hle j;simpa using this);obtain⟨_,b⟩:=gj t.nodes 0 _ _ (by simp) htk;unfold au;rw[htk];simp only[Bool.and_eq_true,decide_eq_true_eq];refine⟨⟨hr.1,hr.2⟩,?_⟩;rw[List.all_eq_true];intro i hi;have hi:i<t.nodes.length:=by simpa using hi
 have hb:=b i;rw[hz,hc i hi] at hb
 by_cases h:(i:Int)=t.root
 ·rw[if_pos h] at hb;simp only[h,decide_true]
  cases hv:tk.getD i false with
  | false=>rfl
  | true=>rw[hv] at hb;simp at hb
 ·rw[if_neg h] at hb;simp only[h,decide_false]
  cases hv:tk.getD i false with
  | false=>rw[hv] at hb;simp at hb
  | true=>rfl
theorem aC.right{t:Tre}(h:aC t):au t=true:=
 qp h.root (fun i n hi=>⟨h.fits i n hi,fun k hk=>by have:=h.kok i n hi k hk;omega⟩) h.count
theorem nB{t:Tre}:au t=true↔aC t:=⟨aq,aC.right⟩
theorem NOk.app{i:Nat}{a b:List Nod}(ha:NOk i a)(hb:NOk (i+a.length) b):NOk i (a++b):=by
 intro j n hj
 by_cases h:j<a.length
 ·rw[List.getElem?_append_left h] at hj;exact ha j n hj
 ·rw[List.getElem?_append_right (by omega)] at hj;obtain⟨h1,h2⟩:=hb _ n hj;exact⟨h1,fun k hk=>by have:=h2 k hk;omega⟩
theorem Fo.nok:∀(F:Fo) (o:Nat),F.fit=true→NOk o (F.ar o)
 | nil,o,_=>fun j n h=>by simp[ar] at h
 | cons n k r,o,h=>by
  simp only[fit,Bool.and_eq_true] at h;have hk:=nok k o h.1.2;have hr:=nok r (o+k.size+1) h.2;rw[ar];refine hk.app ?_;rw[show({ n with kids:=k.bB o } :: r.ar (o+k.size+1))=[{ n with kids:=k.bB o }]++r.ar (o+k.size+1) from rfl];refine NOk.app ?_ (by rw[cC];simpa [Nat.add_assoc] using hr);intro j m hj
  cases j with
  | zero=>
   simp at hj;subst hj;refine⟨by rw[mb,jj];exact h.1.1,fun x hx=>?_⟩;have:=sm k o x hx;rw[cC];omega
  | succ j=>simp at hj
theorem Fo.counts:∀(F:Fo) (o:Nat) (x:Int),(ax (F.ar o)).count x+(F.bB o).count x=if (o:Int)≤x∧x<((o+F.size:Nat):Int) then 1 else 0
 | nil,o,x=>by
  rw[if_neg (by simp only[size];omega)];rfl
 | cons n k r,o,x=>by
  have hk:=counts k o x;have hr:=counts r (o+k.size+1) x;have e:ax ((Fo.cons n k r).ar o)=ax (k.ar o)++(k.bB o++ax (r.ar (o+k.size+1))):=by simp[ax,ar]
  rw[e,bB,List.count_append,List.count_append,List.count_cons,size]
  by_cases h:((o+k.size:Nat):Int)=x
  ·rw[if_neg (by omega)] at hk hr;have hb:(((o+k.size:Nat):Int)==x)=true:=by simpa using h
   rw[hb,if_pos rfl,if_pos (by omega)];omega
  ·have hb:(((o+k.size:Nat):Int)==x)=false:=by simpa using h
   rw[hb];simp only[Bool.false_eq_true,if_false]
   by_cases h1:(o:Int)≤x∧x<((o+k.size:Nat):Int)
   ·rw[if_pos h1] at hk;rw[if_neg (by omega)] at hr;rw[if_pos (by omega)];omega
   ·rw[if_neg h1] at hk
    by_cases h2:((o+k.size+1:Nat):Int)≤x∧x<((o+k.size+1+r.size:Nat):Int)
    ·rw[if_pos h2] at hr;rw[if_pos (by omega)];omega
    ·rw[if_neg h2] at hr;rw[if_neg (by omega)];omega
theorem jC{n:Nod}{k:Fo}(h:(Fo.cons n k .nil).fit=true):au (cP (.cons n k .nil))=true:=by
 have hl:=Fo.cC (.cons n k .nil) 0;refine qp ?_ (Fo.nok _ 0 h) (fun i hi=>?_)
 ·simp only[cP,hl,Fo.size];omega
 ·have hc:=Fo.counts (.cons n k .nil) 0 (i:Int);have hi:i<(Fo.cons n k .nil).size:=by rw[←hl];exact hi
  show(ax ((Fo.cons n k .nil).ar 0)).count (i:Int)=if (i:Int)=((Fo.cons n k .nil).size:Int) - 1 then 0 else 1
  rw[if_pos (by omega)] at hc;simp only[Fo.bB,List.count_cons,List.count_nil] at hc;have hsz:((Fo.cons n k .nil).size:Int) - 1=(k.size:Int):=by simp only[Fo.size];omega
  by_cases he:(i:Int)=(k.size:Int)
  ·rw[if_pos (he.trans hsz.symm)];have:(((0+k.size:Nat):Int)==(i:Int))=true:=by simp;omega
   rw[this] at hc;simp at hc;exact hc
  ·rw[if_neg (fun e=>he (e.trans hsz))];have:(((0+k.size:Nat):Int)==(i:Int))=false:=by simp;omega
   rw[this] at hc;simpa using hc
theorem x5{t:Tre}(h:aC t):∀(f:Nat) (l:List Int),(∀k∈l,0≤k∧k<f)→f≤t.nodes.length→(aE t.nodes f l).fit=true
 | 0,l,_,_=>rfl
 | f+1,l,hl,hf=>by
  induction l with
  | nil=>rfl
  | cons k l ih=>
   have hk:=hl k (by simp);rw[aL,Fo.fit,ih (fun x hx=>hl x (by simp[hx])),x5 h f _ (fun x hx=>⟨(h.kok.ae k x hx).1,by have:=(h.kok.ae k x hx).2;omega⟩) (by omega),Bool.and_true,Bool.and_true];have hlt:k.toNat<t.nodes.length:=by omega
   have hg:=List.getElem?_eq_getElem hlt;have h1:=h.fits _ _ hg;have h2:=aI hg;rw[show((k.toNat:Nat):Int)=k by omega] at h2;have hlen:(aE t.nodes f (ae t.nodes k)).len=(ae t.nodes k).length:=by
    cases f with
    | zero=>
     cases hc:ae t.nodes k with
     | nil=>rfl
     | cons x l=>
      have:=h.kok.ae k x (by rw[hc];simp);omega
    | succ f=>exact zW _ _ _ (by omega)
   rw[hlen,←h2];simp only[dat,List.getD_eq_getElem?_getD,hg,Option.getD_some,mb];exact h1
theorem fH{t:Tre}(h:aC t):∃n k,foT t=.cons n k .nil∧(Fo.cons n k .nil).bare∧(Fo.cons n k .nil).fit=true:=by
 have hb:=vw t.nodes t.nodes.length [t.root];have hf:=x5 h t.nodes.length [t.root] (by intro k hk;simp at hk;subst hk;exact h.root) (Nat.le_refl _);unfold foT;have hp:0<t.nodes.length:=by have:=h.root;omega
 obtain⟨f,hf'⟩:∃f,t.nodes.length=f+1:=⟨t.nodes.length - 1,by omega⟩
 rw[hf',aL,ay] at hb hf ⊢;exact⟨_,_,rfl,hb,hf⟩
theorem qy{t:Tre}(h:aC t):aD t t.root=cP (foT t):=EC h h.root.1 h.root.2
theorem EP{t:Tre}(h:aC t):aC (cP (foT t))∧foT (cP (foT t))=foT t:=by
 obtain⟨n,k,e,hb,hf⟩:=fH h;rw[e];exact⟨aq (jC hf),pb hb⟩
theorem gF{t:Tre}(h:aC t):(foT t).size=t.nodes.length:=by
 unfold foT;rw[iZ,(cU _ _ _).length_eq];exact(wi h).len
theorem Fo.tY:∀(F:Fo) (o d:Nat),(F.bB o).map (· + (d:Int))=F.bB (o+d)
 | nil,_,_=>rfl
 | cons n k r,o,d=>by
  simp only[bB,List.map_cons,tY r];rw[show o+d+k.size+1=o+k.size+1+d by omega]
  congr 1
  omega
theorem Fo.pg:∀(F:Fo) (o d:Nat),bK (F.ar o) (d:Int)=F.ar (o+d)
 | nil,_,_=>rfl
 | cons n k r,o,d=>by
  have hk:=pg k o d;have hr:=pg r (o+k.size+1) d;simp only[bK] at hk hr;simp only[bK,ar,List.map_append,List.map_cons,hk,hr,tY];rw[show o+d+k.size+1=o+k.size+1+d by omega]
theorem Fo.Av:∀(F G:Fo) (o:Nat),(F.app G).ar o=F.ar o++G.ar (o+F.size)
 | nil,_,_=>by simp[app,ar,size]
 | cons n k r,G,o=>by
  simp only[app,ar,Av r G,size,List.append_assoc,List.cons_append];rw[show o+(k.size+1+r.size)=o+k.size+1+r.size by omega]
theorem Fo.so:∀(F G:Fo) (o:Nat),(F.app G).bB o=F.bB o++G.bB (o+F.size)
 | nil,_,_=>by simp[app,bB,size]
 | cons n k r,G,o=>by
  simp only[app,bB,so r G,size,List.cons_append];rw[show o+(k.size+1+r.size)=o+k.size+1+r.size by omega]
theorem Fo.fY:∀(F G:Fo),(F.app G).size=F.size+G.size
 | nil,_=>by simp[app,size]
 | cons n k r,G=>by simp only[app,size,fY r G];omega
theorem Fo.rA:∀(F G:Fo),(F.app G).len=F.len+G.len
 | nil,_=>by simp[app,len]
 | cons n k r,G=>by simp only[app,len,rA r G];omega
theorem Fo.Cm:∀(F G:Fo),(F.app G).fit=(F.fit&&G.fit)
 | nil,_=>by simp[app,fit]
 | cons n k r,G=>by simp only[app,fit,Cm r G,Bool.and_assoc]
theorem Fo.zD:∀(F G:Fo),(F.app G).bare↔F.bare∧G.bare
 | nil,_=>by simp[app,bare]
 | cons n k r,G=>by simp only[app,bare,zD r G,and_assoc]
def foL:List Tre→Fo
 | []=>.nil
 | t :: l=>(foT t).app (foL l)
theorem C3:∀(l:List Tre) (F:Fo),(∀t∈l,au t=true)→iM l (F.ar 0) (F.bB 0)=some ((F.app (foL l)).ar 0,(F.app (foL l)).bB 0)
 | [],F,_=>by
  have e:∀F:Fo,F.app .nil=F:=by
   intro F
   induction F with
   | nil=>rfl
   | cons n k r _ ih=>rw[Fo.app,ih]
  simp[iM,foL,e]
 | t :: l,F,h=>by
  have ht:=h t (by simp);have hT:=aq ht;obtain⟨n,k,e,hb,hf⟩:=fH hT;have e1:F.ar 0++bK (aD t t.root).nodes ((F.ar 0).length)=(F.app (foT t)).ar 0:=by
   rw[qy hT,Fo.Av,Fo.cC]
   congr 1
   exact Fo.pg _ 0 _
  have e2:F.bB 0++[(((F.ar 0).length+(aD t t.root).nodes.length:Nat):Int) - 1]=(F.app (foT t)).bB 0:=by
   rw[qy hT,Fo.so,Fo.cC]
   congr 1
   simp only[cP,Fo.cC,e,Fo.bB,Fo.size]
   congr 1
   omega
  have ea:∀F G H:Fo,(F.app G).app H=F.app (G.app H):=by
   intro F G H
   induction F with
   | nil=>rfl
   | cons n k r _ ih=>simp only[Fo.app,ih]
  rw[iM,if_pos ht,e1,e2,C3 l _ (fun x hx=>h x (by simp[hx])),foL,ea]
theorem vg:∀(l:List Tre) (a:List Nod) (ks:List Int),(¬∀t∈l,au t=true)→iM l a ks=none
 | [],_,_,h=>absurd (by simp) h
 | t :: l,a,ks,h=>by
  unfold iM
  split
  ·rename_i ht;refine vg l _ _ (fun h2=>h fun x hx=>?_);rcases List.mem_cons.1 hx with rfl|hx
   ·exact ht
   ·exact h2 x hx
  ·rfl
theorem pZ{n:Nod}{l:List Tre}(hf:fits n l.length=true)(h:∀t∈l,au t=true):ofP n l=(cP (.cons { n with kids:=[] } (foL l) .nil),true):=by
 have hg:=C3 l .nil h;simp only[Fo.ar,Fo.bB,Fo.app] at hg;unfold ofP;rw[if_pos hf,hg];simp only[cP,Fo.ar,Fo.size,Fo.cC]
 congr 2
 omega
theorem AZ{n:Nod}{l:List Tre}(h:¬(fits n l.length=true∧∀t∈l,au t=true)):ofP n l=(.zero,false):=by
 unfold ofP
 split
 ·rename_i hf;rw[vg l [] [] (fun h2=>h ⟨hf,h2⟩)]
 ·rfl
theorem CW:∀(l:List Tre),(∀t∈l,au t=true)→(foL l).len=l.length∧(foL l).fit=true∧(foL l).bare
 | [],_=>⟨rfl,rfl,trivial⟩
 | t :: l,h=>by
  obtain⟨n,k,e,hb,hf⟩:=fH (aq (h t (by simp)));obtain⟨h1,h2,h3⟩:=CW l (fun x hx=>h x (by simp[hx]));rw[foL,Fo.rA,Fo.Cm,Fo.zD,e,h1,h2];exact⟨by simp[Fo.len];omega,by rw[hf];rfl,hb,h3⟩
theorem vi{n:Nod}{l:List Tre}(hf:fits n l.length=true)(h:∀t∈l,au t=true) :
  aC (ofP n l).1∧foT (ofP n l).1=.cons { n with kids:=[] } (foL l) .nil∧(ofP n l).2=true:=by
 obtain⟨h1,h2,h3⟩:=CW l h;rw[pZ hf h];refine⟨aq (jC ?_),pb ⟨rfl,h3,trivial⟩,rfl⟩;simp only[Fo.fit,h1,h2,Bool.and_true];exact hf
def dS:Nat:=17592186044416
def ca:Nat:=1466015503701
def Bts.wf(b:Bts):Prop:=(0≤b.a∧b.a<18446744073709551616)∧(0≤b.b∧b.b<18446744073709551616)∧(0≤b.c∧b.c<18446744073709551616)∧(0≤b.d∧b.d<18446744073709551616)
def Au(xs:List Int):Prop:=xs.length≤dS∧∀x∈xs,I64 x
structure Nod.wf(n:Nod):Prop where
 kind:0≤n.kind∧n.kind≤255
 set:n.set.wf
 text:n.text.size≤140737488355328
 min:I64 n.min
 max:I64 n.max
 kids:Au n.kids
structure Tre.wf(t:Tre):Prop where
 len:t.nodes.length≤ca
 nodes:∀n∈t.nodes,n.wf
 root:I64 t.root
theorem Nod.a7:Nod.zero.wf:=⟨by decide,by unfold Bts.wf;decide,by decide,by unfold I64;decide,by unfold I64;decide,⟨by decide,by simp[Nod.zero]⟩⟩
theorem tD{ns:List Nod}(hn:∀n∈ns,n.wf):∀(l:List Int) (i:Nat) (pl:List Int),(∀x∈pl,0≤x∧x<(ca:Int))→i+l.length≤ca→∀n∈bb ns i pl l,n.wf∧∀k∈n.kids,0≤k∧k<(ca:Int)
 | [],_,_,_,_,n,h=>by simp[bb] at h
 | k :: l,i,pl,hp,hi,n,h=>by
  simp only[List.length_cons] at hi;have hp':∀x∈pl.set k.toNat (i:Int),0≤x∧x<(ca:Int):=by
   intro x hx;rcases List.mem_or_eq_of_mem_set hx with hx|rfl
   ·exact hp x hx
   ·omega
  simp only[bb,List.mem_cons] at h;rcases h with rfl|h
  ·have hz:(ns.getD k.toNat .zero).wf:=by
    rw[List.getD_eq_getElem?_getD]
    cases hg:ns[k.toNat]? with
    | some m=>exact hn m (List.mem_of_getElem? hg)
    | none=>exact Nod.a7
   have hk:∀y∈(ns.getD k.toNat .zero).kids.map (fun x=>(pl.set k.toNat (i:Int)).getD x.toNat 0),0≤y∧y<(ca:Int):=by
    intro y hy;obtain⟨x,hx,rfl⟩:=List.mem_map.1 hy;rw[List.getD_eq_getElem?_getD]
    cases hg:(pl.set k.toNat (i:Int))[x.toNat]? with
    | some z=>exact hp' z (List.mem_of_getElem? hg)
    | none=>exact⟨by decide,by decide⟩
   exact⟨⟨hz.kind,hz.set,hz.text,hz.min,hz.max,by simpa using hz.kids.1,fun y hy=>by have:=hk y hy;unfold I64;unfold ca at this;omega⟩,hk⟩
  ·exact tD hn l (i+1) _ hp' (by omega) n h
theorem gL{t:Tre}(ht:t.wf)(h:aC t){node:Int}(h0:0≤node)(hn:node<t.nodes.length):(aD t node).wf∧∀n∈(aD t node).nodes,∀k∈n.kids,0≤k∧k<(ca:Int):=by
 have hb:=fj h h0 hn;have hl:=ht.len;have hw:=tD ht.nodes (aQ t node) 0 (List.replicate t.nodes.length 0) (fun x hx=>by rw[List.eq_of_mem_replicate hx];exact⟨by decide,by decide⟩) (by omega);refine⟨⟨?_,fun n hn=>(hw n hn).1,?_⟩,fun n hn=>(hw n hn).2⟩
 ·show(bb _ _ _ _).length≤ca
  rw[ij];omega
 ·show I64 (((aQ t node).length:Int) - 1)
  unfold ca at hl;unfold I64;omega
theorem nQ{t:Tre}(h:aC t){node:Int}(h0:0≤node)(hn:node<t.nodes.length):(aD t node).nodes.length≤t.nodes.length:=by
 show(bb _ _ _ _).length≤_
 rw[ij];exact fj h h0 hn
def tot(l:List Tre):Nat:=(l.map fun t=>t.nodes.length).sum
theorem kH(t:Tre)(l:List Tre):tot (t :: l)=t.nodes.length+tot l:=by simp[tot]
theorem nT{l:List Tre}{t:Tre}(h:t∈l):t.nodes.length≤tot l:=by
 induction l with
 | nil=>cases h
 | cons x l ih=>
  rw[kH];rcases List.mem_cons.1 h with rfl|h
  ·omega
  ·have:=ih h;omega
theorem JA{α:Type}(D r:List α)(d d':α){i:Nat}(h:D.length=i):(D++d :: r).set i d'=D++d' :: r:=by
 subst h;rw[List.set_append_right _ _ (Nat.le_refl _),Nat.sub_self,List.set_cons_zero]
theorem Fo.xf:∀F:Fo,0≤F.depth
 | nil=>Int.le_refl _
 | cons n k r=>by
  have:=xf r;simp only[depth];omega
theorem Gu(ns:List Nod)(f:Nat)(k:Int)(l:List Int):aE ns (f+1) (k :: l)=(aE ns (f+1) [k]).app (aE ns (f+1) l):=by
 rw[aL,aL,ay];rfl
def Fo.dwf:Fo→Prop
 | nil=>True
 | cons n k r=>({ n with kids:=[] }:Nod).wf∧k.dwf∧r.dwf
theorem Fo.oD:∀F G:Fo,(F.app G).dwf↔F.dwf∧G.dwf
 | nil,G=>by simp[app,dwf]
 | cons n k r,G=>by simp only[app,dwf,oD r G,and_assoc]
theorem Fo.w9:∀F:Fo,F.len≤F.size
 | nil=>Nat.le_refl _
 | cons n k r=>by have:=w9 r;simp only[len,size];omega
theorem Fo.Ij:∀(F:Fo) (o:Nat),F.dwf→o+F.size≤ca→∀n∈F.ar o,n.wf
 | nil,o,_,_,n,h=>by simp[ar] at h
 | cons n k r,o,hd,hs,m,h=>by
  obtain⟨h1,h2,h3⟩:=hd;simp only[size] at hs;simp only[ar,List.mem_append,List.mem_cons] at h;rcases h with h|rfl|h
  ·exact Ij k o h2 (by omega) m h
  ·refine⟨h1.kind,h1.set,h1.text,h1.min,h1.max,?_,fun x hx=>?_⟩
   ·rw[jj];have:=w9 k;unfold ca at hs;unfold dS;omega
   ·have:=sm k o x hx;unfold ca at hs;unfold I64;omega
  ·exact Ij r _ h3 (by omega) m h
theorem Nod.wf.wf0{n:Nod}(h:n.wf):({ n with kids:=[] }:Nod).wf:=⟨h.kind,h.set,h.text,h.min,h.max,⟨by simp,by simp⟩⟩
theorem kX{ns:List Nod}(hn:∀n∈ns,n.wf):∀(f:Nat) (l:List Int),(aE ns f l).dwf
 | 0,l=>trivial
 | f+1,l=>by
  induction l with
  | nil=>exact trivial
  | cons k l ih=>
   refine⟨?_,kX hn f _,ih⟩;show Nod.wf { ns.getD k.toNat .zero with kids:=[] }
   rw[List.getD_eq_getElem?_getD]
   cases hg:ns[k.toNat]? with
   | some m=>exact(hn m (List.mem_of_getElem? hg)).wf0
   | none=>exact Nod.a7.wf0
theorem xt:∀{l:List Tre},(∀t∈l,t.wf)→(foL l).dwf
 | [],_=>trivial
 | t :: l,h=>(Fo.oD _ _).2 ⟨kX (h t (by simp)).nodes _ _,xt fun x hx=>h x (by simp[hx])⟩
theorem js:∀{l:List Tre},(∀t∈l,au t=true)→(foL l).size=tot l
 | [],_=>rfl
 | t :: l,h=>by rw[foL,Fo.fY,kH,gF (aq (h t (by simp))),js fun x hx=>h x (by simp[hx])]
theorem rm{F:Fo}(h:F.dwf)(hs:F.size≤ca):(cP F).wf:=by
 refine⟨by show(F.ar 0).length≤ca;rw[Fo.cC];exact hs,Fo.Ij F 0 h (by omega),?_⟩;show I64 ((F.size:Int) - 1)
 unfold ca at hs;unfold I64;omega
theorem Tre.a7:Tre.zero.wf:=⟨by decide,by simp[Tre.zero],by unfold I64;decide⟩
theorem As{n:Nod}{l:List Tre}(hn:n.wf)(hl:∀t∈l,t.wf)(ht:tot l+1≤ca):(ofP n l).1.wf:=by
 by_cases h:fits n l.length=true∧∀t∈l,au t=true
 ·rw[pZ h.1 h.2];refine rm ⟨hn.wf0,xt hl,trivial⟩ ?_;simp only[Fo.size,js h.2];omega
 ·rw[AZ h];exact Tre.a7
theorem C5{n:Nod}{l:List Tre}:(ofP n l).1.nodes.length≤tot l+1:=by
 by_cases h:fits n l.length=true∧∀t∈l,au t=true
 ·rw[pZ h.1 h.2];show(Fo.ar 0 _).length≤_
  rw[Fo.cC];simp only[Fo.size,js h.2];omega
 ·rw[AZ h];exact Nat.zero_le _
theorem vq:dU.wf:=⟨by decide,by unfold Bts.wf;decide,by decide,by unfold I64;decide,by unfold I64;decide,⟨by decide,by simp[dU]⟩⟩
theorem jO{t:Tre}(h:au t=true):aT t=aD t t.root:=by unfold aT;rw[if_pos h]
theorem ma{t:Tre}(h:au t=false):aT t=.zero:=by unfold aT;rw[if_neg (by rw[h];simp)]
theorem fW{t:Tre}(h:au t=true):aT t=cP (foT t):=by rw[jO h,qy (aq h)]
theorem yd(t:Tre):au (aT t)=au t:=by
 cases h:au t with
 | false=>rw[ma h];rfl
 | true=>rw[fW h];exact nB.2 (EP (aq h)).1
theorem Ea{t:Tre}(h:t.wf):(aT t).wf:=by
 cases hr:au t with
 | false=>rw[ma hr];exact⟨by simp[Tre.zero],by simp[Tre.zero],by simp[Tre.zero,I64]⟩
 | true=>
  have hR:=aq hr;rw[jO hr];exact(gL h hR hR.root.1 hR.root.2).1
def a9(t:Tre):Nod:=if au t=true then { t.nodes.getD t.root.toNat .zero with kids:=[] } else .zero
def Fo.trees:Fo→List Tre
 | .nil=>[]
 | .cons m j r=>cP (.cons m j .nil) :: r.trees
def Fo.M9:Fo→List Tre
 | .nil=>[]
 | .cons _ k _=>k.trees
def cA(t:Tre):List Tre:=if au t=true then (foT t).M9 else []
theorem Fo.Dh:∀F:Fo,F.app .nil=F
 | .nil=>rfl
 | .cons m j r=>by rw[Fo.app,Fo.Dh r]
theorem Fo.vB:∀F G H:Fo,(F.app G).app H=F.app (G.app H)
 | .nil,G,H=>rfl
 | .cons m j r,G,H=>by simp only[Fo.app,Fo.vB r G H]
theorem Fo.zj:∀F:Fo,F.len≤F.size
 | .nil=>Nat.le_refl _
 | .cons m j r=>by have:=Fo.zj r;simp only[Fo.len,Fo.size];omega
theorem Fo.vU:∀(F G:Fo),(F.app G).trees=F.trees++G.trees
 | .nil,G=>rfl
 | .cons m j r,G=>by simp[Fo.app,Fo.trees,Fo.vU r G]
theorem Fo.jg:∀(F:Fo),F.trees.length=F.len
 | .nil=>rfl
 | .cons m j r=>by simp[Fo.trees,Fo.len,Fo.jg r]
def re(l:List Tre):Bool:=l.all fun t=>au t
theorem lD{l:List Tre}:re l=true↔∀t∈l,au t=true:=by simp[re]
theorem Ku(n:Nod)(l:List Tre):(ofP n l).2=(fits n l.length&&re l):=by
 by_cases h:fits n l.length=true∧∀t∈l,au t=true
 ·rw[pZ h.1 h.2,h.1,lD.2 h.2];rfl
 ·rw[AZ h]
  cases h1:fits n l.length with
  | false=>rfl
  | true=>
   cases h2:re l with
   | false=>rfl
   | true=>exact absurd ⟨h1,lD.1 h2⟩ h
structure Made(n:Nod)(l:List Tre)(x:Tre):Prop where
 right:au x=true
 fo:foT x=.cons { n with kids:=[] } (foL l) .nil
 clean:aT x=x
 root:a9 x={ n with kids:=[] }
 kids:cA x=(foL l).trees
theorem rz{t:Tre}(h:au t=true):∃F,foT t=.cons (a9 t) F .nil:=by
 have hR:=aq h;have h0:=hR.root;obtain⟨N,hN⟩:∃N,t.nodes.length=N+1:=⟨t.nodes.length - 1,by omega⟩
 refine⟨aE t.nodes N (ae t.nodes t.root),?_⟩;unfold foT;rw[hN,aL,ay,a9,if_pos h];rfl
theorem made{n:Nod}{l:List Tre}(hf:fits n l.length=true)(h:∀t∈l,au t=true):Made n l (ofP n l).1:=by
 obtain⟨h1,h2,h3⟩:=vi hf h;have hr:=nB.2 h1;refine⟨hr,h2,?_,?_,?_⟩
 ·rw[fW hr,h2,pZ hf h]
 ·obtain⟨F,hF⟩:=rz hr;rw[hF] at h2
  injection h2
 ·rw[cA,if_pos hr,h2];rfl
theorem lh:∀{F:Fo},F.fit=true→F.bare→(∀t∈F.trees,au t=true)∧foL F.trees=F
 | .nil,_,_=>⟨by simp[Fo.trees],rfl⟩
 | .cons m j r,hf,hb=>by
  simp only[Fo.fit,Bool.and_eq_true] at hf;obtain⟨h1,h2⟩:=lh (F:=r) hf.2 hb.2.2;have hr:au (cP (.cons m j .nil))=true:=jC (by simp only[Fo.fit,hf.1.1,hf.1.2];rfl);refine⟨fun t ht=>?_,?_⟩
  ·rcases List.mem_cons.1 ht with rfl|ht
   ·exact hr
   ·exact h1 t ht
  ·rw[Fo.trees,foL,h2,pb ⟨hb.1,hb.2.1,trivial⟩];rfl
theorem back{t:Tre}(h:au t=true):ofP (a9 t) (cA t)=(aT t,true):=by
 obtain⟨F,hF⟩:=rz h;obtain⟨n,k,e,hb,hf⟩:=fH (aq h);have e1:Fo.cons (a9 t) F .nil=.cons n k .nil:=hF.symm.trans e
 injection e1 with e2 e3 _
 subst e3;have hk:cA t=F.trees:=by rw[cA,if_pos h,e];rfl
 simp only[Fo.fit,Bool.and_eq_true] at hf;obtain⟨h1,h2⟩:=lh (F:=F) hf.1.2 hb.2.1;have hrk:(a9 t).kids=[]:=by rw[a9,if_pos h]
 have hfit:fits (a9 t) F.trees.length=true:=by rw[Fo.jg,e2];exact hf.1.1
 rw[hk,pZ hfit h1,h2,fW h,e,←e2]
 congr 3
 cases hh:a9 t;rw[hh] at hrk;simp at hrk;rw[hrk]
theorem x9{t:Tre}(h:t.wf):∀x∈cA t,x.wf:=by
 intro x hx
 cases hr:au t with
 | false=>rw[cA,if_neg (by rw[hr];simp)] at hx;simp at hx
 | true=>
  obtain⟨n,k,e,hb,hf⟩:=fH (aq hr);have hsz:=gF (aq hr);have hd:(foT t).dwf:=kX h.nodes _ _;have hl:=h.len;rw[e] at hsz hd;simp only[Fo.size] at hsz;rw[cA,if_pos hr,e] at hx;have key:∀F:Fo,F.dwf→F.size≤ca→∀x∈F.trees,x.wf:=by
   intro F
   induction F with
   | nil=>intro _ _ x hx;simp[Fo.trees] at hx
   | cons m j r _ ih=>
    intro hd hs x hx;simp only[Fo.size] at hs;rcases List.mem_cons.1 hx with rfl|hx
    ·exact rm ⟨hd.1,hd.2.1,trivial⟩ (by simp only[Fo.size];omega)
    ·exact ih hd.2.2 (by omega) x hx
  exact key k hd.2.1 (by omega) x hx
theorem qb(t:Tre):tot (cA t)≤t.nodes.length - 1∧(cA t).length≤t.nodes.length:=by
 cases hr:au t with
 | false=>rw[cA,if_neg (by rw[hr];simp)];simp[tot]
 | true=>
  obtain⟨n,k,e,hb,hf⟩:=fH (aq hr);have hsz:=gF (aq hr);simp only[Fo.fit,Bool.and_eq_true] at hf;obtain⟨h1,h2⟩:=lh (F:=k) hf.1.2 hb.2.1;have h3:=js h1;have h4:=Fo.w9 k;rw[h2] at h3;rw[e] at hsz;simp only[Fo.size] at hsz;rw[cA,if_pos hr,e];show tot k.trees≤_∧k.trees.length≤_
  rw[←h3,Fo.jg];omega
theorem tX{t:Tre}(h:t.wf):(a9 t).wf:=by
 unfold a9
 split
 ·rw[List.getD_eq_getElem?_getD]
  cases hg:t.nodes[t.root.toNat]? with
  | some m=>exact(h.nodes m (List.mem_of_getElem? hg)).wf0
  | none=>exact Nod.a7.wf0
 ·exact Nod.a7
def dF:Nod:=⟨4,.zero,⟨#[]⟩,0,0,[]⟩
def j6:Nod:=⟨5,.zero,⟨#[]⟩,0,0,[]⟩
def j9:Nod:=⟨1,.zero,⟨#[]⟩,0,0,[]⟩
theorem dh{m:Nod}{c:Int}(h:fits m c=true)(hk:m.kind=4)(hb:m.kids=[]):m=dF∧2≤c:=by
 obtain⟨k,s,t,a,b,l⟩:=m;simp only at hk hb;subst hk;subst hb;simp[fits] at h;obtain⟨⟨⟨⟨h1,h2⟩,h3⟩,h4⟩,h5⟩:=h;subst h1;subst h2;subst h3;subst h4;exact⟨rfl,h5⟩
theorem dm{m:Nod}{c:Int}(h:fits m c=true)(hk:m.kind=5)(hb:m.kids=[]):m=j6∧2≤c:=by
 obtain⟨k,s,t,a,b,l⟩:=m;simp only at hk hb;subst hk;subst hb;simp[fits] at h;obtain⟨⟨⟨⟨h1,h2⟩,h3⟩,h4⟩,h5⟩:=h;subst h1;subst h2;subst h3;subst h4;exact⟨rfl,h5⟩
def Fo.opn(k:Int):Fo→Fo
 | .nil=>.nil
 | .cons m j r=>if m.kind=k then j.app (r.opn k) else .cons m j (r.opn k)
def Fo.b5:Fo→Fo
 | .nil=>.nil
 | .cons m j r=>if m.kind=0 then r.b5 else .cons m j r.b5
def Fo.join(m e:Nod):Fo→Fo
 | .nil=>.cons e .nil .nil
 | .cons a b .nil=>.cons a b .nil
 | p=>.cons m p .nil
def Fo.nrm:Fo→Fo
 | .nil=>.nil
 | .cons m j r=>(if m.kind=4 then Fo.join m dU j.nrm.b5 else if m.kind=5 then Fo.join m j9 j.nrm else .cons m j.nrm .nil).app r.nrm
def Fo.opF:Fo→Fo
 | .nil=>.nil
 | .cons m j r=>.cons m (if m.kind=4∨m.kind=5 then j.opF.opn m.kind else j.opF) r.opF
def Fo.put(m:Nod)(K:Fo):Fo:=
 if m.kind=4 then Fo.join m dU (K.b5.opn 4) else if m.kind=5 then Fo.join m j9 (K.opn 5) else .cons m K .nil
def Fo.norm:Fo→Fo
 | .nil=>.nil
 | .cons m j r=>(Fo.put m j.norm).app r.norm
def Fo.noK(k:Int):Fo→Prop
 | .nil=>True
 | .cons m _ r=>m.kind≠k∧r.noK k
def Fo.ok:Fo→Prop
 | .nil=>True
 | .cons m j r=>(m.kind=4→j.noK 4∧j.noK 0)∧(m.kind=5→j.noK 5)∧j.ok∧r.ok
theorem Fo.wW:∀F:Fo,F.app .nil=F
 | .nil=>rfl
 | .cons m j r=>by rw[Fo.app,Fo.wW r]
theorem Fo.Gj:∀F G H:Fo,(F.app G).app H=F.app (G.app H)
 | .nil,_,_=>rfl
 | .cons m j r,G,H=>by simp only[Fo.app,Fo.Gj r G H]
theorem Fo.Ck(k:Int):∀F G:Fo,(F.app G).opn k=(F.opn k).app (G.opn k)
 | .nil,_=>rfl
 | .cons m j r,G=>by
  simp only[Fo.app,Fo.opn]
  split
  ·rw[Fo.Ck k r G,Fo.Gj]
  ·rw[Fo.Ck k r G,Fo.app]
theorem Fo.pW:∀F G:Fo,(F.app G).b5=F.b5.app G.b5
 | .nil,_=>rfl
 | .cons m j r,G=>by
  simp only[Fo.app,Fo.b5]
  split
  ·exact Fo.pW r G
  ·rw[Fo.pW r G,Fo.app]
theorem Fo.rU:∀F G:Fo,(F.app G).opF=F.opF.app G.opF
 | .nil,_=>rfl
 | .cons m j r,G=>by simp only[Fo.app,Fo.opF,Fo.rU r G]
theorem Fo.CZ:∀F G:Fo,(F.app G).nrm=F.nrm.app G.nrm
 | .nil,_=>rfl
 | .cons m j r,G=>by simp only[Fo.app,Fo.nrm,Fo.CZ r G,Fo.Gj]
theorem Fo.rF(k:Int):∀F G:Fo,(F.app G).noK k↔F.noK k∧G.noK k
 | .nil,_=>by simp[Fo.app,Fo.noK]
 | .cons m j r,G=>by simp only[Fo.app,Fo.noK,Fo.rF k r G,and_assoc]
theorem Fo.HJ:∀F G:Fo,(F.app G).ok↔F.ok∧G.ok
 | .nil,_=>by simp[Fo.app,Fo.ok]
 | .cons m j r,G=>by simp only[Fo.app,Fo.ok,Fo.HJ r G,and_assoc]
theorem Fo.IQ:∀F G:Fo,(F.app G).len=F.len+G.len
 | .nil,_=>by simp[Fo.app,Fo.len]
 | .cons m j r,G=>by simp only[Fo.app,Fo.len,Fo.IQ r G];omega
theorem Fo.Ns:∀F G:Fo,(F.app G).fit=(F.fit&&G.fit)
 | .nil,_=>by simp[Fo.app,Fo.fit]
 | .cons m j r,G=>by simp only[Fo.app,Fo.fit,Fo.Ns r G,Bool.and_assoc]
theorem Fo.Kb:∀F G:Fo,(F.app G).bare↔F.bare∧G.bare
 | .nil,_=>by simp[Fo.app,Fo.bare]
 | .cons m j r,G=>by simp only[Fo.app,Fo.bare,Fo.Kb r G,and_assoc]
theorem Fo.pE:∀F:Fo,F.b5.opF=F.opF.b5
 | .nil=>rfl
 | .cons m j r=>by
  simp only[Fo.b5,Fo.opF]
  split
  ·exact Fo.pE r
  ·rw[Fo.opF,Fo.pE r]
theorem Fo.jP:∀F:Fo,F.opF.len=F.len
 | .nil=>rfl
 | .cons m j r=>by simp only[Fo.opF,Fo.len,Fo.jP r]
theorem Fo.dc(m e:Nod)(p:Fo):(p=.nil∧Fo.join m e p=.cons e .nil .nil)∨(∃a b,p=.cons a b .nil∧Fo.join m e p=.cons a b .nil)∨(2≤p.len∧Fo.join m e p=.cons m p .nil):=by
 match p with
 | .nil=>exact .inl ⟨rfl,rfl⟩
 | .cons a b .nil=>exact .inr (.inl ⟨a,b,rfl,rfl⟩)
 | .cons a b (.cons c d r)=>exact .inr (.inr ⟨by simp[Fo.len],rfl⟩)
theorem Fo.dN(m e:Nod){p:Fo}(h:2≤p.len):Fo.join m e p=.cons m p .nil:=by
 rcases Fo.dc m e p with ⟨rfl,_⟩|⟨a,b,rfl,_⟩|⟨_,h2⟩
 ·simp[Fo.len] at h
 ·simp[Fo.len] at h
 ·exact h2
theorem qB:fits dU 0=true:=by decide +kernel
theorem ss:fits j9 0=true:=by decide +kernel
theorem lb{c:Int}(h:2≤c):fits dF c=true:=by simp[fits,dF,h]
theorem kV{c:Int}(h:2≤c):fits j6 c=true:=by simp[fits,j6,h]
def Fo.fb(F:Fo):Prop:=F.fit=true∧F.bare
theorem Fo.bH{m:Nod}{j r:Fo}:(Fo.cons m j r).fb↔(fits m j.len=true∧m.kids=[]∧j.fb)∧r.fb:=by
 simp only[Fo.fb,Fo.fit,Fo.bare,Bool.and_eq_true]
 constructor
 ·rintro⟨⟨⟨a,b⟩,c⟩,d,e,f⟩;exact⟨⟨a,d,b,e⟩,c,f⟩
 ·rintro⟨⟨a,d,b,e⟩,c,f⟩;exact⟨⟨⟨a,b⟩,c⟩,d,e,f⟩
theorem Fo.pI:Fo.nil.fb:=⟨rfl,trivial⟩
theorem Fo.Aw{F G:Fo}:(F.app G).fb↔F.fb∧G.fb:=by
 simp only[Fo.fb,Fo.Ns,Fo.Kb,Bool.and_eq_true]
 constructor
 ·rintro⟨⟨a,b⟩,c,d⟩;exact⟨⟨a,c⟩,b,d⟩
 ·rintro⟨⟨a,c⟩,b,d⟩;exact⟨⟨a,b⟩,c,d⟩
theorem Fo.kR:∀{F:Fo},F.fb→F.b5.fb
 | .nil,h=>h
 | .cons m j r,h=>by
  have h':=Fo.bH.1 h;simp only[Fo.b5]
  split
  ·exact Fo.kR h'.2
  ·exact Fo.bH.2 ⟨h'.1,Fo.kR h'.2⟩
theorem Fo.tS{k:Int}:∀{F:Fo},F.fb→(F.opn k).fb
 | .nil,h=>h
 | .cons m j r,h=>by
  have h':=Fo.bH.1 h;simp only[Fo.opn]
  split
  ·exact Fo.Aw.2 ⟨h'.1.2.2,Fo.tS h'.2⟩
  ·exact Fo.bH.2 ⟨h'.1,Fo.tS h'.2⟩
theorem Fo.rl{m e:Nod}{p:Fo}(hp:p.fb)(he:fits e 0=true∧e.kids=[])(hm:2≤p.len→fits m p.len=true)(hb:m.kids=[]):(Fo.join m e p).fb:=by
 rcases Fo.dc m e p with ⟨rfl,h⟩|⟨a,b,rfl,h⟩|⟨h2,h⟩
 ·rw[h];exact Fo.bH.2 ⟨⟨he.1,he.2,Fo.pI⟩,Fo.pI⟩
 ·rw[h];exact hp
 ·rw[h];exact Fo.bH.2 ⟨⟨hm h2,hb,hp⟩,Fo.pI⟩
theorem Fo.oE(m e:Nod)(p:Fo):(Fo.join m e p).len=1:=by
 rcases Fo.dc m e p with ⟨_,h⟩|⟨a,b,_,h⟩|⟨_,h⟩<;>rw[h]<;>rfl
theorem Fo.Dn:∀F:Fo,F.nrm.len=F.len
 | .nil=>rfl
 | .cons m j r=>by
  simp only[Fo.nrm,Fo.IQ,Fo.Dn r,Fo.len]
  split
  ·rw[Fo.oE];omega
  ·split
   ·rw[Fo.oE];omega
   ·simp[Fo.len];omega
theorem Fo.JK(m:Nod)(K:Fo):(Fo.put m K).len=1:=by
 unfold Fo.put
 split
 ·exact Fo.oE _ _ _
 ·split
  ·exact Fo.oE _ _ _
  ·rfl
theorem Fo.oZ:∀F:Fo,F.norm.len=F.len
 | .nil=>rfl
 | .cons m j r=>by simp only[Fo.norm,Fo.IQ,Fo.JK,Fo.oZ r,Fo.len];omega
theorem Fo.BN:∀{F:Fo},F.fb→F.nrm.fb
 | .nil,h=>h
 | .cons m j r,h=>by
  obtain⟨⟨h1,h2,h3⟩,h4⟩:=Fo.bH.1 h;have ih:=Fo.BN h3;simp only[Fo.nrm];refine Fo.Aw.2 ⟨?_,Fo.BN h4⟩
  split
  ·rename_i hk;obtain⟨rfl,_⟩:=dh h1 hk h2;exact Fo.rl (Fo.kR ih) ⟨qB,rfl⟩ (fun h=>lb (by omega)) rfl
  ·split
   ·rename_i hk;obtain⟨rfl,_⟩:=dm h1 hk h2;exact Fo.rl ih ⟨ss,rfl⟩ (fun h=>kV (by omega)) rfl
   ·exact Fo.bH.2 ⟨⟨by rw[Fo.Dn];exact h1,h2,ih⟩,Fo.pI⟩
theorem Fo.xw:∀{F:Fo},F.fb→F.norm.fb
 | .nil,h=>h
 | .cons m j r,h=>by
  obtain⟨⟨h1,h2,h3⟩,h4⟩:=Fo.bH.1 h;have ih:=Fo.xw h3;simp only[Fo.norm];refine Fo.Aw.2 ⟨?_,Fo.xw h4⟩;unfold Fo.put
  split
  ·rename_i hk;obtain⟨rfl,_⟩:=dh h1 hk h2;exact Fo.rl (Fo.tS (Fo.kR ih)) ⟨qB,rfl⟩ (fun h=>lb (by omega)) rfl
  ·split
   ·rename_i hk;obtain⟨rfl,_⟩:=dm h1 hk h2;exact Fo.rl (Fo.tS ih) ⟨ss,rfl⟩ (fun h=>kV (by omega)) rfl
   ·exact Fo.bH.2 ⟨⟨by rw[Fo.oZ];exact h1,h2,ih⟩,Fo.pI⟩
theorem Fo.l9{k:Int}(hk:k=4∨k=5):∀{F:Fo},F.fb→F.len≤(F.opn k).len
 | .nil,_=>Nat.le_refl _
 | .cons m j r,h=>by
  obtain⟨⟨h1,h2,h3⟩,h4⟩:=Fo.bH.1 h;have ih:=Fo.l9 hk h4;simp only[Fo.opn]
  split
  ·rename_i hm;have:2≤(j.len:Int):=by
    rcases hk with rfl|rfl
    ·exact(dh h1 hm h2).2
    ·exact(dm h1 hm h2).2
   rw[Fo.IQ];simp only[Fo.len];omega
  ·simp only[Fo.len];omega
theorem Fo.qv:∀{F:Fo},F.fb→F.opF.fb
 | .nil,h=>h
 | .cons m j r,h=>by
  obtain⟨⟨h1,h2,h3⟩,h4⟩:=Fo.bH.1 h;have ih:=Fo.qv h3;simp only[Fo.opF];refine Fo.bH.2 ⟨⟨?_,h2,?_⟩,Fo.qv h4⟩
  ·split
   ·rename_i hk;have hl:=Fo.l9 hk ih;rw[Fo.jP] at hl;rcases hk with hk|hk
    ·obtain⟨rfl,h⟩:=dh h1 hk h2;exact lb (by show(2:Int)≤((j.opF.opn 4).len:Int);have:j.len≤(j.opF.opn 4).len:=hl;omega)
    ·obtain⟨rfl,h⟩:=dm h1 hk h2;exact kV (by show(2:Int)≤((j.opF.opn 5).len:Int);have:j.len≤(j.opF.opn 5).len:=hl;omega)
   ·rw[Fo.jP];exact h1
  ·split
   ·exact Fo.tS ih
   ·exact ih
theorem Fo.xv:∀{F:Fo},F.fb→F.nrm.opF=F.norm
 | .nil,_=>rfl
 | .cons m j r,h=>by
  obtain⟨⟨h1,h2,h3⟩,h4⟩:=Fo.bH.1 h;have ih:=Fo.xv h3;have ih2:=Fo.xv h4;have hfb:=Fo.BN h3;simp only[Fo.nrm,Fo.norm,Fo.rU,ih2]
  congr 1
  unfold Fo.put
  split
  ·rename_i hk;obtain⟨rfl,_⟩:=dh h1 hk h2;have hD:(j.nrm.b5).opF=j.norm.b5:=by rw[Fo.pE,ih]
   have hfd:=Fo.kR hfb;rw[←hD];generalize j.nrm.b5=p at *;rcases Fo.dc dF dU p with ⟨rfl,e⟩|⟨a,b,rfl,e⟩|⟨h2',e⟩
   ·rfl
   ·rw[e];obtain⟨⟨g1,g2,g3⟩,_⟩:=Fo.bH.1 hfd
    by_cases ha:a.kind=4
    ·obtain⟨rfl,hl⟩:=dh g1 ha g2;have hlen:=Fo.l9 (.inl rfl:(4:Int)=4∨(4:Int)=5) (Fo.qv g3);rw[Fo.jP] at hlen;have e1:(Fo.cons dF b .nil).opF=.cons dF (b.opF.opn 4) .nil:=rfl;rw[e1];have e2:(Fo.cons dF (b.opF.opn 4) .nil).opn 4=b.opF.opn 4:=by
      show(if dF.kind=4 then (b.opF.opn 4).app .nil else _)=_
      rw[if_pos ha,Fo.wW]
     rw[e2,Fo.dN _ _ (by omega)]
    ·have e2:((Fo.cons a b .nil).opF).opn 4=(Fo.cons a b .nil).opF:=by
      simp only[Fo.opF,Fo.opn,if_neg ha]
     rw[e2];simp only[Fo.opF];rfl
   ·rw[e];have hl:=Fo.l9 (.inl rfl:(4:Int)=4∨(4:Int)=5) (Fo.qv hfd);rw[Fo.jP] at hl;rw[Fo.dN _ _ (by omega)];rfl
  ·split
   ·rename_i hk;obtain⟨rfl,_⟩:=dm h1 hk h2;rw[←ih];generalize j.nrm=p at *;rcases Fo.dc j6 j9 p with ⟨rfl,e⟩|⟨a,b,rfl,e⟩|⟨h2',e⟩
    ·rfl
    ·rw[e];obtain⟨⟨g1,g2,g3⟩,_⟩:=Fo.bH.1 hfb
     by_cases ha:a.kind=5
     ·obtain⟨rfl,hl⟩:=dm g1 ha g2;have hlen:=Fo.l9 (.inr rfl:(5:Int)=4∨(5:Int)=5) (Fo.qv g3);rw[Fo.jP] at hlen;have e1:(Fo.cons j6 b .nil).opF=.cons j6 (b.opF.opn 5) .nil:=rfl;rw[e1];have e2:(Fo.cons j6 (b.opF.opn 5) .nil).opn 5=b.opF.opn 5:=by
       show(if j6.kind=5 then (b.opF.opn 5).app .nil else _)=_
       rw[if_pos ha,Fo.wW]
      rw[e2,Fo.dN _ _ (by omega)]
     ·have e2:((Fo.cons a b .nil).opF).opn 5=(Fo.cons a b .nil).opF:=by
       simp only[Fo.opF,Fo.opn,if_neg ha]
      rw[e2];simp only[Fo.opF];rfl
    ·rw[e];have hl:=Fo.l9 (.inr rfl:(5:Int)=4∨(5:Int)=5) (Fo.qv hfb);rw[Fo.jP] at hl;rw[Fo.dN _ _ (by omega)];rfl
   ·rename_i hk4 hk5;simp only[Fo.opF];rw[if_neg (by rintro(h|h);exact hk4 h;exact hk5 h),ih]
theorem Fo.pX:∀F:Fo,F.b5.noK 0
 | .nil=>trivial
 | .cons m j r=>by
  simp only[Fo.b5]
  split
  ·exact Fo.pX r
  ·rename_i h;exact⟨h,Fo.pX r⟩
theorem Fo.zP:∀{F:Fo},F.noK 0→F.b5=F
 | .nil,_=>rfl
 | .cons m j r,h=>by
  simp only[Fo.b5];rw[if_neg h.1,Fo.zP h.2]
theorem Fo.AL{k:Int}:∀{F:Fo},F.noK k→F.opn k=F
 | .nil,_=>rfl
 | .cons m j r,h=>by
  simp only[Fo.opn];rw[if_neg h.1,Fo.AL h.2]
theorem Fo.lB:∀{F:Fo},F.ok→F.b5.ok
 | .nil,h=>h
 | .cons m j r,h=>by
  simp only[Fo.b5]
  split
  ·exact Fo.lB h.2.2.2
  ·exact⟨h.1,h.2.1,h.2.2.1,Fo.lB h.2.2.2⟩
theorem Fo.wD{k:Int}:∀{F:Fo},F.ok→(F.opn k).ok
 | .nil,h=>h
 | .cons m j r,h=>by
  simp only[Fo.opn]
  split
  ·exact(Fo.HJ _ _).2 ⟨h.2.2.1,Fo.wD h.2.2.2⟩
  ·exact⟨h.1,h.2.1,h.2.2.1,Fo.wD h.2.2.2⟩
theorem Fo.sF:∀{F:Fo},F.ok→(F.opn 4).noK 4
 | .nil,_=>trivial
 | .cons m j r,h=>by
  simp only[Fo.opn]
  split
  ·rename_i hk;exact(Fo.rF _ _ _).2 ⟨(h.1 hk).1,Fo.sF h.2.2.2⟩
  ·rename_i hk;exact⟨hk,Fo.sF h.2.2.2⟩
theorem Fo.pV:∀{F:Fo},F.ok→F.noK 0→(F.opn 4).noK 0
 | .nil,_,_=>trivial
 | .cons m j r,h,h0=>by
  simp only[Fo.opn]
  split
  ·rename_i hk;exact(Fo.rF _ _ _).2 ⟨(h.1 hk).2,Fo.pV h.2.2.2 h0.2⟩
  ·exact⟨h0.1,Fo.pV h.2.2.2 h0.2⟩
theorem Fo.sY:∀{F:Fo},F.ok→(F.opn 5).noK 5
 | .nil,_=>trivial
 | .cons m j r,h=>by
  simp only[Fo.opn]
  split
  ·rename_i hk;exact(Fo.rF _ _ _).2 ⟨h.2.1 hk,Fo.sY h.2.2.2⟩
  ·rename_i hk;exact⟨hk,Fo.sY h.2.2.2⟩
theorem Fo.Dc{e:Nod}(h4:e.kind≠4)(h5:e.kind≠5):(Fo.cons e .nil .nil).ok:=⟨fun h=>absurd h h4,fun h=>absurd h h5,trivial,trivial⟩
theorem Fo.wX:∀{F:Fo},F.fb→F.ok→F.norm=F
 | .nil,_,_=>rfl
 | .cons m j r,h,hk=>by
  obtain⟨⟨h1,h2,h3⟩,h4⟩:=Fo.bH.1 h;obtain⟨k4,k5,kj,kr⟩:=hk;simp only[Fo.norm];rw[Fo.wX h3 kj,Fo.wX h4 kr];have e:Fo.put m j=.cons m j .nil:=by
   unfold Fo.put
   split
   ·rename_i hm;obtain⟨rfl,hl⟩:=dh h1 hm h2;rw[Fo.zP (k4 hm).2,Fo.AL (k4 hm).1,Fo.dN _ _ (by omega)]
   ·split
    ·rename_i hm;obtain⟨rfl,hl⟩:=dm h1 hm h2;rw[Fo.AL (k5 hm),Fo.dN _ _ (by omega)]
    ·rfl
  rw[e];rfl
theorem Fo.lg{k:Int}:∀F:Fo,(F.opn k).size≤F.size
 | .nil=>Nat.le_refl _
 | .cons m j r=>by
  have:=Fo.lg (k:=k) r;simp only[Fo.opn]
  split
  ·rw[Fo.fY];simp only[Fo.size];omega
  ·simp only[Fo.size];omega
theorem Fo.m5:∀F:Fo,F.b5.size≤F.size
 | .nil=>Nat.le_refl _
 | .cons m j r=>by
  have:=Fo.m5 r;simp only[Fo.b5]
  split<;>simp only[Fo.size]<;>omega
theorem Fo.mq(m e:Nod)(p:Fo):(Fo.join m e p).size≤p.size+1:=by
 rcases Fo.dc m e p with ⟨rfl,h⟩|⟨a,b,rfl,h⟩|⟨_,h⟩<;>rw[h]<;>simp only[Fo.size]<;>omega
theorem Fo.jd:∀F:Fo,F.norm.size≤F.size
 | .nil=>Nat.le_refl _
 | .cons m j r=>by
  have h1:=Fo.jd j;have h2:=Fo.jd r;have h3:(Fo.put m j.norm).size≤j.norm.size+1:=by
   unfold Fo.put
   split
   ·exact Nat.le_trans (Fo.mq _ _ _) (by have:=Fo.lg (k:=4) j.norm.b5;have:=Fo.m5 j.norm;omega)
   ·split
    ·exact Nat.le_trans (Fo.mq _ _ _) (by have:=Fo.lg (k:=5) j.norm;omega)
    ·simp only[Fo.size];omega
  simp only[Fo.norm,Fo.fY,Fo.size];omega
def gw(t:Tre):Tre×Bool:=if au t=true then (cP (foT t).norm,true) else (.zero,false)
theorem GU{ns xs:List Nod}{k:Int}(h0:0≤k)(h:k<ns.length):(ns++xs).getD k.toNat .zero=ns.getD k.toNat .zero:=by
 rw[List.getD_eq_getElem?_getD,List.getD_eq_getElem?_getD,List.getElem?_append_left (by omega)]
theorem xF{ns xs:List Nod}{k:Int}(h:k<ns.length):ae (ns++xs) k=ae ns k:=by
 unfold ae
 by_cases h0:k<0
 ·rw[if_pos h0,if_pos h0]
 ·rw[if_neg h0,if_neg h0];unfold mX;rw[List.getElem?_append_left (by omega)]
theorem uH{ns:List Nod}{n:Nod}:ae (ns++[n]) (ns.length:Int)=n.kids:=
 (aI (i:=ns.length) (by simp)).symm
theorem tQ{ns xs:List Nod}(hc:bw (ae ns)):∀(f:Nat) (l:List Int),(∀k∈l,0≤k∧k<ns.length)→aE (ns++xs) f l=aE ns f l
 | 0,l,_=>rfl
 | f+1,l,hl=>by
  induction l with
  | nil=>rw[ay,ay]
  | cons k l ih=>
   have hk:=hl k (by simp);rw[aL,aL,ih (fun x hx=>hl x (by simp[hx])),xF hk.2,
    tQ hc f (ae ns k) (fun x hx=>by have:=hc k x hx;omega)]
   congr 1
   unfold dat;rw[GU hk.1 hk.2]
theorem y6{ns xs:List Nod}(hc:bw (ae ns)):∀(f:Nat) (l:List Int),(∀k∈l,0≤k∧k<ns.length)→dfs (ae (ns++xs)) f l=dfs (ae ns) f l
 | 0,l,_=>rfl
 | f+1,l,hl=>by
  show l.flatMap _=l.flatMap _
  rw[List.flatMap_def,List.flatMap_def]
  congr 1
  apply List.map_congr_left;intro k hk;have h:=hl k hk;rw[xF h.2,y6 hc f (ae ns k) (fun x hx=>by have:=hc k x hx;omega)]
theorem KOk.snoc{ns:List Nod}{n:Nod}(h:KOk ns)(hn:∀k∈n.kids,0≤k∧k<ns.length):KOk (ns++[n]):=by
 intro i m hm k hk;rcases Nat.lt_trichotomy i ns.length with hi|hi|hi
 ·rw[List.getElem?_append_left hi] at hm;exact h i m hm k hk
 ·subst hi;simp at hm;subst hm;exact hn k hk
 ·rw[List.getElem?_eq_none (by simp;omega)] at hm
  cases hm
structure Den(ar:List Nod)(p:Int)(F:Fo):Prop where
 pos:0≤p
 lt:p<ar.length
 fo:aE ar ar.length [p]=F
theorem Den.app{ar xs:List Nod}{p:Int}{F:Fo}(hc:bw (ae ar))(h:Den ar p F):Den (ar++xs) p F:=by
 have hp:=h.pos;have hl:=h.lt;refine⟨hp,by simp;omega,?_⟩;rw[tQ hc _ _ (by intro k hk;simp at hk;subst hk;exact⟨hp,hl⟩),←h.fo];exact dQ hc _ _ _ (by intro k hk;simp at hk;subst hk;simp;omega) (by intro k hk;simp at hk;subst hk;exact hl)
theorem Den.snoc{ar:List Nod}{n:Nod}(hc:bw (ae ar))(hn:∀k∈n.kids,0≤k∧k<ar.length):Den (ar++[n]) (ar.length:Int) (.cons { n with kids:=[] } (aE ar ar.length n.kids) .nil):=by
 refine⟨by omega,by simp;omega,?_⟩;rw[show(ar++[n]).length=ar.length+1 by simp,aL,ay,uH,tQ hc _ _ hn]
 congr 1
 unfold dat;rw[List.getD_eq_getElem?_getD,Int.toNat_natCast,List.getElem?_append_right (Nat.le_refl _)];simp
theorem bc{ns:List Nod}{f:Nat}(k:Int)(l:List Int)(hf:0<f):aE ns f (k :: l)=(aE ns f [k]).app (aE ns f l):=by
 obtain⟨g,rfl⟩:∃g,f=g+1:=⟨f - 1,by omega⟩
 exact Gu ns g k l
theorem fM{ns:List Nod}{f:Nat}(k:Int)(hf:0<f):∃j,aE ns f [k]=.cons (dat ns k) j .nil:=by
 obtain⟨g,rfl⟩:∃g,f=g+1:=⟨f - 1,by omega⟩
 exact⟨_,by rw[aL,ay]⟩
def aR(ns:List Nod)(k:Int):Int:=(ns.getD k.toNat .zero).kind
def s7(ar:List Nod)(n e:Nod):List Int→List Nod×Int
 | []=>(ar++[e],ar.length)
 | [p]=>(ar,p)
 | ps=>(ar++[{ n with kids:=ps }],ar.length)
def sH(ar:List Nod)(K:List Int):List Int:=K.filter fun k=>!decide (aR ar k=0)
def j8(ar:List Nod)(n:Nod)(K:List Int):List Nod×Int:=
 if n.kind=4 then s7 ar n dU (sH ar K) else if n.kind=5 then s7 ar n j9 K else (ar++[{ n with kids:=K }],ar.length)
theorem uY{ar:List Nod}(hf:0<ar.length):∀(K:List Int),aE ar ar.length (sH ar K)=(aE ar ar.length K).b5
 | []=>by rw[ay];show aE ar _ []=_;rw[ay];rfl
 | k :: l=>by
  obtain⟨j,hj⟩:=fM (ns:=ar) k hf;rw[bc k l hf,Fo.pW,hj];unfold sH at *;rw[List.filter_cons];have ih:=uY hf l;unfold sH at ih;have hd:(dat ar k).kind=aR ar k:=rfl
  by_cases h:aR ar k=0
  ·simp only[h,decide_true,Bool.not_true,Bool.false_eq_true,if_false,Fo.b5,hd,if_true];rw[ih];rfl
  ·simp only[h,decide_false,Bool.not_false,if_true,Fo.b5,hd,if_false];rw[bc k _ hf,hj,ih]
structure Nv(ar:List Nod)(K:List Int)(r:List Nod×Int)(F:Fo):Prop where
 den:Den r.1 r.2 F
 kok:KOk r.1
 grow:r.1=ar∧r.2∈K∨∃x:Nod,r.1=ar++[x]∧r.2=ar.length∧x.kids.Sublist K
theorem sI{ar:List Nod}{n e:Nod}{K P:List Int}(hk:KOk ar)(hP:∀k∈P,0≤k∧k<ar.length)(hs:P.Sublist K)(he:e.kids=[]) :
  Nv ar K (s7 ar n e P) (Fo.join { n with kids:=[] } e (aE ar ar.length P)):=by
 have hc:bw (ae ar):=hk.ae
 match P,hP,hs with
 | [],_,_=>
  refine⟨?_,hk.snoc (by rw[he];simp),.inr ⟨e,rfl,rfl,by rw[he];exact List.nil_sublist _⟩⟩;have:=Den.snoc hc (n:=e) (by rw[he];simp);rw[he,ay] at this;rw[ay];have e2:({ e with kids:=[] }:Nod)=e:=by rw[←he]
  rw[e2] at this;exact this
 | [p],hP,hs=>
  have hp:=hP p (by simp);refine⟨⟨hp.1,hp.2,?_⟩,hk,.inl ⟨rfl,hs.subset (by show p∈[p];simp)⟩⟩;obtain⟨j,hj⟩:=fM (ns:=ar) p (by omega:0<ar.length);show aE ar ar.length [p]=_
  rw[hj];rfl
 | p :: q :: l,hP,hs=>
  refine⟨?_,hk.snoc hP,.inr ⟨{ n with kids:=p :: q :: l },rfl,rfl,hs⟩⟩;have hp:=hP p (by simp);have h:=Den.snoc hc (n:={ n with kids:=p :: q :: l }) hP;have hl:2≤(aE ar ar.length (p :: q :: l)).len:=by rw[zW _ _ _ (by omega)];simp
  rw[Fo.dN _ _ hl];exact h
theorem Ap{ar:List Nod}{n:Nod}{K:List Int}{F:Fo}(hk:KOk ar)(hK:∀k∈K,0≤k∧k<ar.length)(hF:aE ar ar.length K=F.nrm) :
  Nv ar K (j8 ar n K) (Fo.cons { n with kids:=[] } F .nil).nrm:=by
 have e:(Fo.cons { n with kids:=[] } F .nil).nrm=if n.kind=4 then Fo.join { n with kids:=[] } dU F.nrm.b5 else if n.kind=5 then Fo.join { n with kids:=[] } j9 F.nrm else .cons { n with kids:=[] } F.nrm .nil:=by
  show(if n.kind=4 then _ else if n.kind=5 then _ else _:Fo).app .nil=_
  rw[Fo.wW]
 rw[e];unfold j8
 split
 ·have h:=sI (n:=n) (e:=dU) (K:=K) hk (P:=sH ar K) (fun k hk'=>hK k (List.mem_filter.1 hk').1) List.filter_sublist rfl
  by_cases hlen:0<ar.length
  ·rw[uY hlen,hF] at h;exact h
  ·have:K=[]:=by
    cases K with
    | nil=>rfl
    | cons k K=>have:=hK k (by simp);omega
   subst this;rw[ay] at hF;rw[←hF];rw[show sH ar []=[] from rfl,ay] at h;exact h
 ·split
  ·have h:=sI (n:=n) (e:=j9) (K:=K) hk (P:=K) hK (List.Sublist.refl _) rfl;rw[hF] at h;exact h
  ·refine⟨?_,hk.snoc hK,.inr ⟨{ n with kids:=K },rfl,rfl,List.Sublist.refl _⟩⟩;have h:=Den.snoc hk.ae (n:={ n with kids:=K }) hK;rw[hF] at h;exact h
def unC(t:Tre)(i:Nat):List Int:=((List.range i).map Int.ofNat).filter fun k=>!decide (k∈ax (t.nodes.take i))
theorem lY(t:Tre)(i:Nat)(x:Int):(unC t i).count x=if 0≤x∧x<i∧x ∉ ax (t.nodes.take i) then 1 else 0:=by
 unfold unC
 by_cases h:x∈ax (t.nodes.take i)
 ·rw[if_neg (fun hh=>hh.2.2 h)];exact List.count_eq_zero.2 fun hm=>by have:=(List.mem_filter.1 hm).2;simp[h] at this
 ·rw[List.count_filter (by simpa using h),nM]
  by_cases h2:0≤x∧x<(i:Int)
  ·rw[if_pos h2,if_pos ⟨h2.1,h2.2,h⟩]
  ·rw[if_neg h2,if_neg (fun hh=>h2 ⟨hh.1,hh.2.1⟩)]
theorem o7(a:List Nod)(n:Nod):ax (a++[n])=ax a++n.kids:=by simp[ax]
theorem Ha{t:Tre}(hR:aC t){i:Nat}{n:Nod}(hn:t.nodes[i]?=some n):(unC t (i+1)++n.kids).Perm (unC t i++[(i:Int)]):=by
 rw[List.perm_iff_count];intro x;obtain⟨hi,he⟩:=List.getElem?_eq_some_iff.1 hn;have htk:t.nodes.take (i+1)=t.nodes.take i++[n]:=by rw[List.take_succ_eq_append_getElem hi,he]
 have hko:=hR.kok i n hn;have hle:(ax (t.nodes.take i)).count x+n.kids.count x≤1:=by
  have h1:(ax t.nodes).count x≤1:=by
   by_cases hx:0≤x∧x<t.nodes.length
   ·have:=hR.count x.toNat (by omega);rw[show((x.toNat:Nat):Int)=x by omega] at this;rw[this];split<;>omega
   ·have:(ax t.nodes).count x=0:=List.count_eq_zero.2 fun hm=>by
     obtain⟨m,hm1,hm2⟩:=List.mem_flatMap.1 hm;obtain⟨j,hj⟩:=List.mem_iff_getElem?.1 hm1;have:=hR.kok j m hj x hm2;have:=(List.getElem?_eq_some_iff.1 hj).1;omega
    omega
  have h2:ax t.nodes=ax (t.nodes.take i)++(n.kids++ax (t.nodes.drop (i+1))):=by
   conv=>lhs;rw[←List.take_append_drop (i+1) t.nodes,htk]
   simp[ax]
  rw[h2,List.count_append,List.count_append] at h1;omega
 have hlt:∀y∈ax (t.nodes.take i),0≤y∧y<(i:Int):=by
  intro y hy;obtain⟨m,hm1,hm2⟩:=List.mem_flatMap.1 hy;obtain⟨j,hj⟩:=List.mem_iff_getElem?.1 hm1;rw[List.getElem?_take] at hj
  split at hj
  ·have:=hR.kok j m hj y hm2;omega
  ·cases hj
 rw[List.count_append,List.count_append,lY,lY,htk,o7,List.count_singleton];have ha:x∈ax (t.nodes.take i)↔0<(ax (t.nodes.take i)).count x:=List.count_pos_iff.symm;have hb:x∈n.kids↔0<n.kids.count x:=List.count_pos_iff.symm
 by_cases hxi:x=(i:Int)
 ·subst hxi;have h0:n.kids.count (i:Int)=0:=List.count_eq_zero.2 fun hm=>by have:=hko _ hm;omega
  have h1:(i:Int) ∉ ax (t.nodes.take i):=fun hm=>by have:=hlt _ hm;omega
  rw[if_pos ⟨by omega,by omega,by rw[List.mem_append];rintro(h|h);exact h1 h;rw[hb] at h;omega⟩,if_neg (by omega),h0];simp
 ·have hne:((i:Int)==x)=false:=by simp;omega
  rw[hne];simp only[Bool.false_eq_true,if_false,Nat.add_zero]
  by_cases hm:x∈n.kids
  ·have:=hko x hm;have hc1:=hb.1 hm;rw[if_neg (fun hh=>hh.2.2 (by rw[List.mem_append];exact .inr hm)),if_pos ⟨this.1,this.2,fun hh=>by have:=ha.1 hh;omega⟩];omega
  ·have h0:n.kids.count x=0:=List.count_eq_zero.2 hm;rw[h0,Nat.add_zero]
   by_cases hq:0≤x∧x<(i:Int)∧x ∉ ax (t.nodes.take i)
   ·rw[if_pos hq,if_pos ⟨hq.1,by omega,by rw[List.mem_append];rintro(h|h);exact hq.2.2 h;exact hm h⟩]
   ·rw[if_neg hq,if_neg (fun hh=>hq ⟨hh.1,by omega,fun h=>hh.2.2 (by rw[List.mem_append];exact .inl h)⟩)]
structure sE(t:Tre)(i:Nat)(ar:List Nod)(pl:List Int):Prop where
 len:pl.length=i
 kok:KOk ar
 den:∀k:Nat,k<i→Den ar (pl.getD k 0) (aE t.nodes t.nodes.length [(k:Int)]).nrm
 Nn:ar.length≤i
 nd:∀x,(dfs (ae ar) ar.length ((unC t i).map fun k=>pl.getD k.toNat 0)).count x≤1
theorem sE.zero(t:Tre):sE t 0 [] []:=⟨rfl,fun i n h=>by simp at h,fun k h=>by omega,Nat.le_refl _,fun x=>by simp[unC,dfs]⟩
theorem places{t:Tre}{i:Nat}{ar:List Nod}{pl:List Int}(h:sE t i ar pl)(hN:i≤t.nodes.length):∀(l:List Int),(∀k∈l,0≤k∧k<(i:Int))→
  (∀p∈l.map (fun k=>pl.getD k.toNat 0),0≤p∧p<ar.length)∧aE ar ar.length (l.map fun k=>pl.getD k.toNat 0)=(aE t.nodes t.nodes.length l).nrm
 | [],_=>by simp[ay,Fo.nrm]
 | k :: l,hl=>by
  have hk:=hl k (by simp);obtain⟨a,b⟩:=places h hN l (fun x hx=>hl x (by simp[hx]));have hd:=h.den k.toNat (by omega);rw[show((k.toNat:Nat):Int)=k by omega] at hd;have h1:=hd.pos;have h2:=hd.lt;refine⟨?_,?_⟩
  ·intro p hp;rw[List.map_cons] at hp;rcases List.mem_cons.1 hp with rfl|hp
   ·exact⟨h1,h2⟩
   ·exact a p hp
  ·rw[List.map_cons,bc _ _ (by omega),hd.fo,b,bc k l (by omega),Fo.CZ]
theorem E5{t:Tre}(hR:aC t){i:Nat}{n:Nod}(hn:t.nodes[i]?=some n):aE t.nodes t.nodes.length [(i:Int)]=.cons { n with kids:=[] } (aE t.nodes t.nodes.length n.kids) .nil:=by
 obtain⟨hi,_⟩:=List.getElem?_eq_some_iff.1 hn;obtain⟨f,hf⟩:∃f,t.nodes.length=f+1:=⟨t.nodes.length - 1,by omega⟩
 have hko:=hR.kok i n hn;rw[hf,aL,ay,←aI hn,dQ hR.kok.ae f (f+1) n.kids (fun k hk=>by have:=hko k hk;omega) (fun k hk=>by have:=hko k hk;omega)]
 congr 1
 unfold dat;rw[Int.toNat_natCast,List.getD_eq_getElem?_getD,hn];rfl
theorem uS(pl:List Int)(p:Int)(k:Nat):(pl++[p]).getD k 0=if k<pl.length then pl.getD k 0 else if k=pl.length then p else 0:=by
 rw[List.getD_eq_getElem?_getD,List.getD_eq_getElem?_getD]
 split
 ·rw[List.getElem?_append_left (by omega)]
 ·split
  ·rename_i h;subst h;simp
  ·rw[List.getElem?_eq_none (by simp;omega)];rfl
theorem ox{ar:List Nod}(hc:bw (ae ar)){f:Nat}(l:List Int)(hl:∀k∈l,0≤k∧k<ar.length)(hf:ar.length≤f):dfs (ae ar) f l=dfs (ae ar) ar.length l:=
 lE hc f ar.length l (fun k hk=>by have:=hl k hk;omega) (fun k hk=>(hl k hk).2)
theorem ku{P K:List Int}(h:P.Sublist K)(f:Int→List Int)(x:Int):(P.flatMap f).count x≤(K.flatMap f).count x:=by
 induction h with
 | slnil=>exact Nat.le_refl _
 | cons a _ ih=>rw[List.flatMap_cons,List.count_append];omega
 | cons_cons a _ ih=>rw[List.flatMap_cons,List.flatMap_cons,List.count_append,List.count_append];omega
theorem iT{ch:Int→List Int}{f:Nat}{P K:List Int}(h:P.Sublist K)(x:Int):(dfs ch f P).count x≤(dfs ch f K).count x:=by
 cases f with
 | zero=>exact Nat.le_refl _
 | succ f=>exact ku h _ x
theorem G6{ch:Int→List Int}{f:Nat}{P K:List Int}(h:P.Perm K)(x:Int):(dfs ch f P).count x=(dfs ch f K).count x:=by
 cases f with
 | zero=>rfl
 | succ f=>exact(h.flatMap_right _).count_eq x
theorem sE.step{t:Tre}(hR:aC t){i:Nat}{n:Nod}(hn:t.nodes[i]?=some n){ar:List Nod}{pl:List Int}(h:sE t i ar pl) :
  sE t (i+1) (j8 ar n (n.kids.map fun k=>pl.getD k.toNat 0)).1 (pl++[(j8 ar n (n.kids.map fun k=>pl.getD k.toNat 0)).2]):=by
 obtain⟨hi,_⟩:=List.getElem?_eq_some_iff.1 hn;have hko:=hR.kok i n hn;obtain⟨hK,hF⟩:=places h (by omega) n.kids hko;have hcome:=Ap (n:=n) h.kok hK hF;rw[←E5 hR hn] at hcome;generalize j8 ar n (n.kids.map fun k=>pl.getD k.toNat 0)=r at *;obtain⟨ar',p⟩:=r;obtain⟨hden,hkok,hgrow⟩:=hcome;simp only at hden hkok hgrow ⊢;have hc:=h.kok.ae;have hc':=hkok.ae;have hpl:=h.len;have hg:∀k:Nat,k<i→(pl++[p]).getD k 0=pl.getD k 0:=fun k hk=>by rw[uS,if_pos (by omega)]
 have hgi:(pl++[p]).getD i 0=p:=by rw[uS,if_neg (by omega),if_pos hpl.symm]
 have happ:∃xs,ar'=ar++xs:=by
  rcases hgrow with ⟨rfl,_⟩|⟨x,rfl,_⟩
  ·exact⟨[],by simp⟩
  ·exact⟨[x],rfl⟩
 obtain⟨xs,hxs⟩:=happ;refine⟨by simp[hpl],hkok,fun k hk=>?_,?_,fun x=>?_⟩
 ·by_cases hki:k=i
  ·subst hki;rw[hgi];exact hden
  ·rw[hg k (by omega),hxs];exact(h.den k (by omega)).app hc
 ·have:=h.Nn;rcases hgrow with ⟨rfl,_⟩|⟨x,rfl,_⟩
  ·omega
  ·simp;omega
 ·
  have hperm:=(Ha hR hn).map (fun k:Int=>(pl++[p]).getD k.toNat 0);rw[List.map_append,List.map_append,List.map_cons,List.map_nil,Int.toNat_natCast,hgi] at hperm;have e1:n.kids.map (fun k:Int=>(pl++[p]).getD k.toNat 0)=n.kids.map fun k=>pl.getD k.toNat 0:=List.map_congr_left fun k hk=>hg _ (by have:=hko k hk;omega)
  have hul:∀k∈unC t i,0≤k∧k<(i:Int):=by
   intro k hk;have h1:=List.count_pos_iff.2 hk;rw[lY] at h1
   split at h1
   ·rename_i hh;exact⟨hh.1,hh.2.1⟩
   ·omega
  have e2:(unC t i).map (fun k:Int=>(pl++[p]).getD k.toNat 0)=(unC t i).map fun k=>pl.getD k.toNat 0:=List.map_congr_left fun k hk=>hg _ (by have:=hul k hk;omega)
  rw[e1,e2] at hperm;obtain⟨hU,_⟩:=places h (by omega) (unC t i) hul;have hcnt:=G6 (ch:=ae ar') (f:=ar'.length) hperm x;rw[bl,bl,List.count_append,List.count_append] at hcnt;have hnd:=h.nd x;have hlen:ar.length≤ar'.length:=by rw[hxs];simp
  have eU:dfs (ae ar') ar'.length ((unC t i).map fun k=>pl.getD k.toNat 0)=dfs (ae ar) ar.length ((unC t i).map fun k=>pl.getD k.toNat 0):=by
   rw[←ox hc _ hU hlen];have e3:=y6 (xs:=xs) hc ar'.length _ hU;rw[←hxs] at e3;exact e3
  rw[eU] at hcnt;generalize hKl:n.kids.map (fun k=>pl.getD k.toNat 0)=K at *;rcases hgrow with ⟨_,hp⟩|⟨y,rfl,rfl,hs⟩
  ·have:=iT (ch:=ae ar') (f:=ar'.length) (List.singleton_sublist.2 hp) x;omega
  ·have hyk:∀k∈y.kids,0≤k∧k<(ar.length:Int):=fun k hk=>hK k (hs.subset hk)
   rw[aM hc' (by omega) (by simp;omega),bk,List.append_nil,uH,List.count_cons] at hcnt;have h2:=iT (ch:=ae (ar++[y])) (f:=(ar++[y]).length) hs x
   by_cases hx:x=(ar.length:Int)
   ·subst hx;have:(dfs (ae ar) ar.length ((unC t i).map fun k=>pl.getD k.toNat 0)).count (ar.length:Int)=0:=List.count_eq_zero.2 fun hm=>by have:=gE hc _ _ hU _ hm;omega
    rw[this] at hcnt;simp only[beq_self_eq_true,if_true] at hcnt;omega
   ·have:((ar.length:Int)==x)=false:=by simp;omega
    rw[this] at hcnt;simp only[Bool.false_eq_true,if_false] at hcnt;omega
theorem vC{ns:List Nod}{f:Nat}(hf:0<f):∀(a b:List Int),aE ns f (a++b)=(aE ns f a).app (aE ns f b)
 | [],b=>by rw[ay];rfl
 | k :: a,b=>by rw[List.cons_append,bc k _ hf,bc k a hf,vC hf a b,Fo.Gj]
theorem fJ{ns:List Nod}(hc:bw (ae ns)){k:Int}(h0:0≤k)(hk:k<ns.length):aE ns ns.length [k]=.cons (dat ns k) (aE ns ns.length (ae ns k)) .nil:=by
 obtain⟨f,hf⟩:∃f,ns.length=f+1:=⟨ns.length - 1,by omega⟩
 rw[hf,aL,ay,dQ hc f (f+1) (ae ns k) (fun x hx=>by have:=hc k x hx;omega) (fun x hx=>by have:=hc k x hx;omega)]
def Fo.tP(k:Int):Fo→Fo
 | .nil=>.nil
 | .cons m j r=>if m.kind=k then (j.tP k).app (r.tP k) else .cons m j (r.tP k)
theorem Fo.sW(k:Int):∀F G:Fo,(F.app G).tP k=(F.tP k).app (G.tP k)
 | .nil,_=>rfl
 | .cons m j r,G=>by
  simp only[Fo.app,Fo.tP]
  split
  ·rw[Fo.sW k r G,Fo.Gj]
  ·rw[Fo.sW k r G,Fo.app]
theorem Fo.oe{k:Int}(hk:k=4∨k=5):∀F:Fo,(F.tP k).opF=F.opF.opn k
 | .nil=>rfl
 | .cons m j r=>by
  simp only[Fo.tP,Fo.opF,Fo.opn]
  split
  ·rename_i hm;rw[Fo.rU,Fo.oe hk j,Fo.oe hk r,hm,if_pos hk]
  ·rw[Fo.opF,Fo.oe hk r]
def b7(ns:List Nod)(kind:Int):Nat→List Int→List Int
 | 0,_=>[]
 | f+1,l=>l.flatMap fun i=>if aR ns i=kind then b7 ns kind f (ae ns i) else [i]
theorem aX(ns:List Nod)(kind:Int)(f:Nat):b7 ns kind f []=[]:=by cases f<;>rfl
theorem En(ns:List Nod)(kind:Int)(f:Nat)(a b:List Int):b7 ns kind f (a++b)=b7 ns kind f a++b7 ns kind f b:=by cases f<;>simp[b7]
theorem ew{ns:List Nod}{kind:Int}(h:bw (ae ns)):∀(f g:Nat) (l:List Int),(∀k∈l,0≤k∧k<f)→(∀k∈l,k<g)→b7 ns kind f l=b7 ns kind g l
 | 0,g,l,hf,hg=>by
  cases l with
  | nil=>rw[aX,aX]
  | cons k l=>have:=hf k (by simp);omega
 | f+1,0,l,hf,hg=>by
  cases l with
  | nil=>rw[aX,aX]
  | cons k l=>
   have:=hf k (by simp);have:=hg k (by simp);omega
 | f+1,g+1,l,hf,hg=>by
  show l.flatMap _=l.flatMap _
  rw[List.flatMap_def,List.flatMap_def]
  congr 1
  apply List.map_congr_left;intro k hk;have h1:=hf k hk;have h2:=hg k hk;rw[ew h f g (ae ns k) (fun x hx=>⟨(h k x hx).1,by have:=(h k x hx).2;omega⟩) (fun x hx=>by have:=(h k x hx).2;omega)]
theorem ic{ns:List Nod}{kind:Int}(h:bw (ae ns)){f:Nat}{k:Int}{l:List Int}(h0:0≤k)(hk:k<f) :
  b7 ns kind f (k :: l)=(if aR ns k=kind then b7 ns kind f (ae ns k) else [k])++b7 ns kind f l:=by
 cases f with
 | zero=>omega
 | succ f=>
  have e:b7 ns kind f (ae ns k)=b7 ns kind (f+1) (ae ns k):=ew h f (f+1) (ae ns k) (fun x hx=>⟨(h k x hx).1,by have:=(h k x hx).2;omega⟩) (fun x hx=>by have:=(h k x hx).2;omega);rw[←e];simp[b7]
theorem lT{ns:List Nod}{kind:Int}(h:bw (ae ns)):∀(f:Nat) (l:List Int),(∀k∈l,0≤k∧k<f)→∀x∈b7 ns kind f l,(0≤x∧x<f)∧aR ns x≠kind
 | 0,l,_,x,hx=>by cases hx
 | f+1,l,hl,x,hx=>by
  simp only[b7,List.mem_flatMap] at hx;obtain⟨k,hk,hx⟩:=hx;have h1:=hl k hk
  split at hx
  ·have:=lT h f (ae ns k) (fun y hy=>by have:=h k y hy;omega) x hx;exact⟨by omega,this.2⟩
  ·rename_i hne;simp at hx;subst hx;exact⟨by omega,hne⟩
theorem kB{ns:List Nod}{kind:Int}{f:Nat}(hf:0<f):∀(l:List Int),(∀k∈l,aR ns k≠kind)→b7 ns kind f l=l
 | [],_=>aX _ _ _
 | k :: l,hl=>by
  obtain⟨g,rfl⟩:∃g,f=g+1:=⟨f - 1,by omega⟩
  have ih:=kB (ns:=ns) (kind:=kind) hf l (fun x hx=>hl x (by simp[hx]));simp only[b7] at ih ⊢;rw[List.flatMap_cons,ih,if_neg (hl k (by simp))];rfl
def chO(ns:List Nod)(k:Int):List Int:=if aR ns k=4∨aR ns k=5 then b7 ns (aR ns k) ns.length (ae ns k) else ae ns k
theorem iJ{ns:List Nod}{k x:Int}(h:x∈ae ns k):0≤k∧k<ns.length:=by
 refine⟨?_,?_⟩
 ·by_cases h0:0≤k
  ·exact h0
  ·unfold ae at h;rw[if_pos (by omega)] at h;cases h
 ·by_cases h0:k<(ns.length:Int)
  ·exact h0
  ·rw[DL (by omega)] at h;cases h
theorem lF{ns:List Nod}(h:bw (ae ns)):bw (chO ns):=by
 intro k x hx;unfold chO at hx
 split at hx
 ·by_cases he:ae ns k=[]
  ·rw[he,aX] at hx;cases hx
  ·obtain⟨y,hy⟩:=List.exists_mem_of_ne_nil _ he;have hk:=iJ hy;rw[ew h ns.length k.toNat (ae ns k) (fun z hz=>by have:=h k z hz;omega) (fun z hz=>by have:=h k z hz;omega)] at hx;have:=(lT h k.toNat (ae ns k) (fun z hz=>by have:=h k z hz;omega) x hx).1;omega
 ·exact h k x hx
theorem nO{ns:List Nod}{kind:Int}(h:bw (ae ns)):∀(f:Nat) (l:List Int),(∀k∈l,0≤k∧k<f)→f≤ns.length→aE ns ns.length (b7 ns kind f l)=(aE ns ns.length l).tP kind
 | 0,l,hl,_=>by
  cases l with
  | nil=>rw[aX,ay];rfl
  | cons k l=>have:=hl k (by simp);omega
 | f+1,[],_,_=>by rw[aX,ay];rfl
 | f+1,k :: l,hl,hf=>by
  have hk:=hl k (by simp);have ih:=nO h (kind:=kind) (f+1) l (fun x hx=>hl x (by simp[hx])) hf;rw[ic h hk.1 (by omega),vC (by omega),ih,bc k l (by omega),Fo.sW,fJ h hk.1 (by omega)]
  congr 1
  have hd:(dat ns k).kind=aR ns k:=rfl;simp only[Fo.tP,hd,Fo.wW]
  split
  ·rw[ew h (f+1) f (ae ns k) (fun x hx=>by have:=h k x hx;omega) (fun x hx=>by have:=h k x hx;omega)];exact nO h f (ae ns k) (fun x hx=>by have:=h k x hx;omega) (by omega)
  ·exact fJ h hk.1 (by omega)
def opA(ns:List Nod):List Nod:=(List.range ns.length).map fun i=>{ ns.getD i .zero with kids:=chO ns (i:Int) }
theorem jJ(ns:List Nod):(opA ns).length=ns.length:=by simp[opA]
theorem xg{ns:List Nod}{i:Nat}(h:i<ns.length):(opA ns)[i]?=some { ns.getD i .zero with kids:=chO ns (i:Int) }:=by simp[opA,h]
theorem Hw{ns:List Nod}{k:Int}(h:¬(0≤k∧k<ns.length)):chO ns k=[]:=by
 have he:ae ns k=[]:=by
  cases hc:ae ns k with
  | nil=>rfl
  | cons x l=>exact absurd (iJ (x:=x) (by rw[hc];simp)) h
 unfold chO;rw[he,aX]
 split<;>rfl
theorem o6(ns:List Nod)(k:Int):ae (opA ns) k=chO ns k:=by
 by_cases h:0≤k∧k<ns.length
 ·obtain⟨i,rfl⟩:∃i:Nat,k=i:=⟨k.toNat,by omega⟩
  exact(aI (xg (by omega))).symm
 ·rw[Hw h]
  cases hc:ae (opA ns) k with
  | nil=>rfl
  | cons x l=>
   have:=iJ (ns:=opA ns) (x:=x) (k:=k) (by rw[hc];simp);rw[jJ] at this;exact absurd this h
theorem zG{ns:List Nod}(h:bw (ae ns)):bw (ae (opA ns)):=by
 intro k x hx;rw[o6] at hx;exact lF h k x hx
theorem Jv{ns:List Nod}{k:Int}(h0:0≤k)(h:k<ns.length):dat (opA ns) k=dat ns k:=by
 obtain⟨i,rfl⟩:∃i:Nat,k=i:=⟨k.toNat,by omega⟩
 unfold dat;rw[Int.toNat_natCast,List.getD_eq_getElem?_getD,xg (by omega)];rfl
theorem sV{ns:List Nod}(h:bw (ae ns)):∀(m:Nat) (l:List Int),(∀k∈l,0≤k∧k<m)→m≤ns.length→aE (opA ns) ns.length l=(aE ns ns.length l).opF
 | 0,l,hl,_=>by
  cases l with
  | nil=>rw[ay,ay];rfl
  | cons k l=>have:=hl k (by simp);omega
 | m+1,[],_,_=>by rw[ay,ay];rfl
 | m+1,k :: l,hl,hm=>by
  have hk:=hl k (by simp);have ih:=sV h (m+1) l (fun x hx=>hl x (by simp[hx])) hm;have hc:=zG h;have e1:=fJ (ns:=opA ns) hc hk.1 (by rw[jJ];omega);rw[jJ] at e1;rw[bc k l (by omega),ih,e1,bc (ns:=ns) k l (by omega),Fo.rU,fJ h hk.1 (by omega),Jv hk.1 (by omega),o6,
   sV h m (chO ns k) (fun x hx=>by have:=lF h k x hx;omega) (by omega)]
  congr 1
  simp only[Fo.opF];have hd:(dat ns k).kind=aR ns k:=rfl;rw[hd]
  congr 1
  unfold chO
  split
  ·rename_i hkk;rw[nO h ns.length (ae ns k) (fun x hx=>by have:=h k x hx;omega) (Nat.le_refl _),Fo.oe hkk]
  ·rfl
theorem pB{ns:List Nod}{kind:Int}(h:bw (ae ns))(x:Int):∀(f:Nat) (l:List Int),(∀k∈l,0≤k∧k<f)→f≤ns.length→(dfs (ae ns) ns.length (b7 ns kind f l)).count x≤(dfs (ae ns) ns.length l).count x
 | 0,l,hl,_=>by
  cases l with
  | nil=>rw[aX];exact Nat.le_refl _
  | cons k l=>have:=hl k (by simp);omega
 | f+1,[],_,_=>by rw[aX];exact Nat.le_refl _
 | f+1,k :: l,hl,hf=>by
  have hk:=hl k (by simp);have ih:=pB h (kind:=kind) x (f+1) l (fun x hx=>hl x (by simp[hx])) hf;rw[ic h hk.1 (by omega),bl,List.count_append,aM h hk.1 (by omega),List.count_cons,List.count_append]
  split
  ·rw[ew h (f+1) f (ae ns k) (fun x hx=>by have:=h k x hx;omega) (fun x hx=>by have:=h k x hx;omega)];have:=pB h (kind:=kind) x f (ae ns k) (fun x hx=>by have:=h k x hx;omega) (by omega);omega
  ·rw[aM h hk.1 (by omega),bk,List.append_nil,List.count_cons];omega
theorem rS{ns:List Nod}(h:bw (ae ns))(x:Int):∀(m:Nat) (l:List Int),(∀k∈l,0≤k∧k<m)→m≤ns.length→(dfs (chO ns) ns.length l).count x≤(dfs (ae ns) ns.length l).count x
 | 0,l,hl,_=>by
  cases l with
  | nil=>rw[bk];exact Nat.zero_le _
  | cons k l=>have:=hl k (by simp);omega
 | m+1,[],_,_=>by rw[bk];exact Nat.zero_le _
 | m+1,k :: l,hl,hm=>by
  have hk:=hl k (by simp);have ih:=rS h x (m+1) l (fun x hx=>hl x (by simp[hx])) hm;rw[aM (lF h) hk.1 (by omega),aM h hk.1 (by omega),List.count_cons,List.count_cons,List.count_append,List.count_append];have h1:=rS h x m (chO ns k) (fun x hx=>by have:=lF h k x hx;omega) (by omega);have h2:(dfs (ae ns) ns.length (chO ns k)).count x≤(dfs (ae ns) ns.length (ae ns k)).count x:=by
   unfold chO
   split
   ·exact pB h x ns.length (ae ns k) (fun x hx=>by have:=h k x hx;omega) (Nat.le_refl _)
   ·exact Nat.le_refl _
  omega
theorem Gl{ns:List Nod}(hc:bw (ae ns)){r node:Int}(h0:0≤node)(hn:node<ns.length)(hnd:(iS (ae ns) ns.length [node]).Nodup):aD ⟨ns,r⟩ node=cP (aE ns ns.length [node]):=by
 obtain⟨pl,h1,h2,h3,h4⟩:=jM hc ns.length [node] 0 (List.replicate ns.length 0) [] (by intro k hk;simp at hk;subst hk;exact⟨h0,hn⟩) (Nat.le_refl _) (by simp) hnd;unfold aD cP aQ;rw[iZ];simp only[List.append_nil] at h2;rw[h2];simp[bb]
theorem uU{ns:List Nod}(h:bw (ae ns)){node:Int}(h0:0≤node)(hn:node<ns.length)(hnd:∀x,(dfs (ae ns) ns.length [node]).count x≤1):(dfs (chO ns) ns.length [node]).Nodup:=
 List.nodup_iff_count.2 fun x=>Nat.le_trans (rS h x ns.length [node] (by intro k hk;simp at hk;subst hk;exact⟨h0,hn⟩) (Nat.le_refl _)) (hnd x)
theorem EU{ns:List Nod}(h:bw (ae ns)){r node:Int}(h0:0≤node)(hn:node<ns.length)(hnd:∀x,(dfs (ae ns) ns.length [node]).count x≤1) :
  aD ⟨opA ns,r⟩ node=cP (aE ns ns.length [node]).opF:=by
 have hch:ae (opA ns)=chO ns:=funext fun k=>o6 ns k
 rw[Gl (zG h) h0 (by rw[jJ];exact hn) (by rw[(cU _ _ _).nodup_iff,hch,jJ];exact uU h h0 hn hnd),jJ,
  sV h ns.length [node] (by intro k hk;simp at hk;subst hk;exact⟨h0,hn⟩) (Nat.le_refl _)]
structure Mod(ns ns':List Nod):Prop where
 len:ns'.length=ns.length
 get:∀(i:Nat) n,ns[i]?=some n→∃ks,ns'[i]?=some { n with kids:=ks }∧(ks=ae ns i∨ks=chO ns i)
theorem Mod.refl(ns:List Nod):Mod ns ns:=⟨rfl,fun i n h=>⟨n.kids,h,.inl (aI h)⟩⟩
theorem Mod.kind{ns ns':List Nod}(h:Mod ns ns')(k:Int):aR ns' k=aR ns k:=by
 unfold aR;rw[List.getD_eq_getElem?_getD,List.getD_eq_getElem?_getD]
 cases hg:ns[k.toNat]? with
 | none=>
  have:=List.getElem?_eq_none_iff.1 hg;rw[List.getElem?_eq_none (by rw[h.len];exact this)]
 | some n=>
  obtain⟨ks,h1,_⟩:=h.get _ n hg;rw[h1];rfl
theorem Mod.ch{ns ns':List Nod}(h:Mod ns ns')(k:Int):ae ns' k=ae ns k∨ae ns' k=chO ns k:=by
 by_cases hk:0≤k∧k<ns.length
 ·obtain⟨i,rfl⟩:∃i:Nat,k=i:=⟨k.toNat,by omega⟩
  obtain⟨ks,h1,h2⟩:=h.get i _ (List.getElem?_eq_getElem (by omega));have:=aI h1;simp only at this;rw[←this];exact h2
 ·left
  have e:∀ms:List Nod,ms.length=ns.length→ae ms k=[]:=by
   intro ms hm
   cases hc:ae ms k with
   | nil=>rfl
   | cons x l=>
    have:=iJ (ns:=ms) (x:=x) (k:=k) (by rw[hc];simp);rw[hm] at this;exact absurd this hk
  rw[e ns rfl,e ns' h.len]
theorem Mod.MU{ns ns':List Nod}(hc:bw (ae ns))(h:Mod ns ns'):bw (ae ns'):=by
 intro k x hx;rcases h.ch k with e|e<;>rw[e] at hx
 ·exact hc k x hx
 ·exact lF hc k x hx
theorem Mod.b7{ns ns':List Nod}(hc:bw (ae ns))(h:Mod ns ns'){kind:Int}(hkd:kind=4∨kind=5):∀(f:Nat) (l:List Int),(∀k∈l,0≤k∧k<f)→aa.b7 ns' kind f l=aa.b7 ns kind f l
 | 0,l,_=>rfl
 | f+1,l,hl=>by
  show l.flatMap _=l.flatMap _
  rw[List.flatMap_def,List.flatMap_def]
  congr 1
  apply List.map_congr_left;intro k hk;have h1:=hl k hk;rw[h.kind]
  by_cases hkk:aR ns k=kind
  ·rw[if_pos hkk,if_pos hkk];rcases h.ch k with e|e
   ·rw[e];exact Mod.b7 hc h hkd f (ae ns k) (fun x hx=>by have:=hc k x hx;omega)
   ·rw[e];have e2:chO ns k=aa.b7 ns kind ns.length (ae ns k):=by unfold chO;rw[hkk,if_pos hkd]
    have hm:=lF hc
    by_cases he:ae ns k=[]
    ·rw[e2,he,aX,aX,aX]
    ·obtain⟨y,hy⟩:=List.exists_mem_of_ne_nil _ he;have hkl:=iJ hy;have hyk:=hc k y hy;have e3:aa.b7 ns kind ns.length (ae ns k)=aa.b7 ns kind f (ae ns k):=ew hc _ _ _ (fun x hx=>by have:=hc k x hx;omega) (fun x hx=>by have:=hc k x hx;omega);rw[kB (by omega) _ (fun x hx=>by
      rw[h.kind];rw[e2] at hx;exact(lT hc ns.length (ae ns k) (fun z hz=>by have:=hc k z hz;omega) x hx).2),e2,e3]
  ·rw[if_neg hkk,if_neg hkk]
theorem Mod.chO{ns ns':List Nod}(hc:bw (ae ns))(h:Mod ns ns')(k:Int):aa.chO ns' k=aa.chO ns k∨¬(aR ns k=4∨aR ns k=5):=by
 by_cases hkk:aR ns k=4∨aR ns k=5
 ·left
  unfold aa.chO;rw[h.kind,h.len,if_pos hkk,if_pos hkk];rcases h.ch k with e|e
  ·rw[e];exact Mod.b7 hc h hkk _ _ (fun x hx=>by have:=hc k x hx;have:=iJ hx;omega)
  ·rw[e];have e2:aa.chO ns k=aa.b7 ns (aR ns k) ns.length (ae ns k):=by unfold aa.chO;rw[if_pos hkk]
   by_cases he:ae ns k=[]
   ·rw[e2,he,aX,aX]
   ·obtain⟨y,hy⟩:=List.exists_mem_of_ne_nil _ he;have hkl:=iJ hy;rw[kB (by omega) _ (fun x hx=>by
     rw[h.kind];rw[e2] at hx;exact(lT hc ns.length (ae ns k) (fun z hz=>by have:=hc k z hz;omega) x hx).2),e2]
 ·exact .inr hkk
theorem iR{ns:List Nod}{kind:Int}(h:bw (ae ns)):∀(f:Nat) (l:List Int),(∀k∈l,0≤k∧k<f)→f≤ns.length→(dfs (ae ns) ns.length (b7 ns kind f l)).length≤(dfs (ae ns) ns.length l).length
 | 0,l,hl,_=>by
  cases l with
  | nil=>rw[aX];exact Nat.le_refl _
  | cons k l=>have:=hl k (by simp);omega
 | f+1,[],_,_=>by rw[aX];exact Nat.le_refl _
 | f+1,k :: l,hl,hf=>by
  have hk:=hl k (by simp);have ih:=iR h (kind:=kind) (f+1) l (fun x hx=>hl x (by simp[hx])) hf;rw[ic h hk.1 (by omega),bl,List.length_append,aM h hk.1 (by omega),List.length_cons,List.length_append]
  split
  ·rw[ew h (f+1) f (ae ns k) (fun x hx=>by have:=h k x hx;omega) (fun x hx=>by have:=h k x hx;omega)];have:=iR h (kind:=kind) f (ae ns k) (fun x hx=>by have:=h k x hx;omega) (by omega);omega
  ·rw[aM h hk.1 (by omega),bk,List.append_nil,List.length_cons];omega
theorem Mod.ox{ns ms:List Nod}(h:bw (ae ns))(hm:Mod ns ms):∀(m:Nat) (l:List Int),(∀k∈l,0≤k∧k<m)→m≤ns.length→(dfs (ae ms) ns.length l).length≤(dfs (ae ns) ns.length l).length
 | 0,l,hl,_=>by
  cases l with
  | nil=>rw[bk];exact Nat.zero_le _
  | cons k l=>have:=hl k (by simp);omega
 | m+1,[],_,_=>by rw[bk];exact Nat.zero_le _
 | m+1,k :: l,hl,hm'=>by
  have hk:=hl k (by simp);have ih:=Mod.ox h hm (m+1) l (fun x hx=>hl x (by simp[hx])) hm';have hok:=Mod.MU h hm;rw[aM hok hk.1 (by omega),aM h hk.1 (by omega),List.length_cons,List.length_cons,List.length_append,List.length_append];have h1:=Mod.ox h hm m (ae ms k) (fun x hx=>by have:=hok k x hx;omega) (by omega);have h2:(dfs (ae ns) ns.length (ae ms k)).length≤(dfs (ae ns) ns.length (ae ns k)).length:=by
   rcases hm.ch k with e|e
   ·rw[e];exact Nat.le_refl _
   ·rw[e];unfold aa.chO
    split
    ·exact iR h ns.length (ae ns k) (fun x hx=>by have:=h k x hx;have:=iJ hx;omega) (Nat.le_refl _)
    ·exact Nat.le_refl _
  omega
theorem Mod.set{ns ms:List Nod}(hm:Mod ns ms){i:Nat}{m:Nod}(hi:ms[i]?=some m):Mod ns (ms.set i { m with kids:=aa.chO ns (i:Int) }):=by
 refine⟨by simp[hm.len],fun j n hj=>?_⟩;obtain⟨ks,h1,h2⟩:=hm.get j n hj
 by_cases hij:i=j
 ·subst hij;rw[hi] at h1
  injection h1 with h1
  refine⟨aa.chO ns (i:Int),?_,.inr rfl⟩;rw[List.getElem?_set_self (by exact(List.getElem?_eq_some_iff.1 hi).1),h1]
 ·exact⟨ks,by rw[List.getElem?_set_ne hij];exact h1,h2⟩
theorem qz:∀{N:Nat} {l:List Int},l.Nodup→(∀k∈l,0≤k∧k<N)→l.length≤N
 | 0,[],_,_=>Nat.le_refl _
 | 0,k :: l,_,h=>by have:=h k (by simp);omega
 | N+1,l,hn,h=>by
  have h1:=qz (N:=N) (l:=l.erase (N:Int)) (hn.erase _) (fun k hk=>by
   have h2:=h k (List.mem_of_mem_erase hk);have h3:k≠(N:Int):=fun e=>by subst e;exact(List.Nodup.not_mem_erase hn) hk
   omega)
  have h2:=List.length_erase (a:=(N:Int)) (l:=l)
  split at h2<;>omega
theorem xY{ns:List Nod}(h:bw (ae ns)){node y:Int}(h0:0≤node)(hn:node<ns.length)(hy:y∈dfs (chO ns) ns.length [node]):y∈dfs (ae ns) ns.length [node]:=by
 have h1:=rS h y ns.length [node] (by intro k hk;simp at hk;subst hk;exact⟨h0,hn⟩) (Nat.le_refl _);have h2:=List.count_pos_iff.2 hy;exact List.count_pos_iff.1 (by omega)
theorem xV{ns:List Nod}(h:bw (ae ns)){node:Int}(h0:0≤node)(hn:node<ns.length)(hnd:∀x,(dfs (ae ns) ns.length [node]).count x≤1):(dfs (ae ns) ns.length [node]).length≤ns.length:=
 qz (List.nodup_iff_count.2 hnd) (gE h _ _ (by intro k hk;simp at hk;subst hk;exact⟨h0,hn⟩))
theorem xk{ns:List Nod}(h:bw (ae ns)){node:Int}(h0:0≤node)(hn:node<ns.length)(hnd:∀x,(dfs (ae ns) ns.length [node]).count x≤1):(dfs (chO ns) ns.length [node]).length≤ns.length:=
 qz (uU h h0 hn hnd) (gE (lF h) _ _ (by intro k hk;simp at hk;subst hk;exact⟨h0,hn⟩))
theorem Mod.room{ns ms:List Nod}(h:bw (ae ns))(hm:Mod ns ms){node y:Int}(h0:0≤node)(hn:node<ns.length)(hnd:∀x,(dfs (ae ns) ns.length [node]).count x≤1)(hy:y∈dfs (aa.chO ns) ns.length [node]) :
  (dfs (ae ms) ms.length [y]).length≤ns.length:=by
 have hl:∀k∈[node],0≤k∧k<(ns.length:Int):=by intro k hk;simp at hk;subst hk;exact⟨h0,hn⟩
 have hy1:=xY h h0 hn hy;have hy2:=gE h _ _ hl y hy1;rw[hm.len];exact Nat.le_trans (Mod.ox h hm ns.length [y] (by intro k hk;simp at hk;subst hk;exact hy2) (Nat.le_refl _))
  (Nat.le_trans (gX h ns.length ns.length [node] hl (Nat.le_refl _) y hy1) (xV h h0 hn hnd))
theorem Lf{ns ms:List Nod}(hm:Mod ns ms){i:Nat}{m:Nod}(hi:ms[i]?=some m)(hk:m.kids=chO ns (i:Int)):(opA ns)[i]?=some m:=by
 have hl:i<ns.length:=by rw[←hm.len];exact(List.getElem?_eq_some_iff.1 hi).1
 obtain⟨ks,h1,_⟩:=hm.get i _ (List.getElem?_eq_getElem hl);rw[hi] at h1
 injection h1 with h1
 rw[xg hl,List.getD_eq_getElem?_getD,List.getElem?_eq_getElem hl];subst h1;simp only at hk;rw[hk];rfl
theorem Mod.DJ{ns ms:List Nod}(hm:Mod ns ms){i:Nat}{m:Nod}(hi:ms[i]?=some m)(h4:m.kind≠4)(h5:m.kind≠5):m.kids=aa.chO ns (i:Int):=by
 have hl:i<ns.length:=by rw[←hm.len];exact(List.getElem?_eq_some_iff.1 hi).1
 obtain⟨ks,h1,h2⟩:=hm.get i _ (List.getElem?_eq_getElem hl);rw[hi] at h1
 injection h1 with h1
 have hkA:aR ns (i:Int)=ns[i].kind:=by unfold aR;rw[List.getD_eq_getElem?_getD,Int.toNat_natCast,List.getElem?_eq_getElem hl];rfl
 have e:aa.chO ns (i:Int)=ae ns i:=by
  unfold aa.chO;rw[if_neg (by rw[hkA];subst h1;simp only at h4 h5;rintro(h|h);exact h4 h;exact h5 h)]
 rw[e] at h2 ⊢;subst h1;rcases h2 with h2|h2<;>exact h2
theorem Gf{F:Fo}(h1:F.len=1)(hb:F.bare):foT (cP F)=F:=by
 match F,h1 with
 | .cons m j .nil,_=>exact pb hb
 | .cons m j (.cons a b r),h1=>simp[Fo.len] at h1
theorem Bg{F:Fo}(h1:F.len=1)(hf:F.fit=true):au (cP F)=true:=by
 match F,h1 with
 | .cons m j .nil,_=>exact jC hf
 | .cons m j (.cons a b r),h1=>simp[Fo.len] at h1
theorem Fo.one{F:Fo}(h1:F.len=1):∃m j,F=.cons m j .nil:=by
 match F,h1 with
 | .cons m j .nil,_=>exact⟨m,j,rfl⟩
 | .cons m j (.cons a b r),h1=>simp[Fo.len] at h1
theorem xx{t:Tre}(h:au t=true):(foT t).fb∧(foT t).len=1:=by
 obtain⟨n,k,e,hb,hf⟩:=fH (aq h);rw[e];exact⟨⟨hf,hb⟩,rfl⟩
structure NT(t:Tre)(F:Fo):Prop where
 eq:t=cP F
 len:F.len=1
 fb:F.fb
 ok:F.ok
theorem NT.fo{t:Tre}{F:Fo}(h:NT t F):foT t=F:=by rw[h.eq];exact Gf h.len h.fb.2
theorem NT.right{t:Tre}{F:Fo}(h:NT t F):au t=true:=by rw[h.eq];exact Bg h.len h.fb.1
theorem NT.clean{t:Tre}{F:Fo}(h:NT t F):aT t=t:=by rw[fW h.right,h.fo,←h.eq]
theorem NT.make{t:Tre}{F:Fo}(h:NT t F):gw t=(t,true):=by
 unfold gw;rw[if_pos h.right,h.fo,Fo.wX h.fb h.ok,←h.eq]
theorem lK{t:Tre}(h:au t=true):gw t=(cP (foT t).norm,true):=by unfold gw;rw[if_pos h]
theorem yC{t:Tre}(h:au t=false):gw t=(.zero,false):=by unfold gw;rw[if_neg (by rw[h];simp)]
def Fo.parts(F:Fo):Fo:=F.b5.opn 4
def Fo.ways(F:Fo):Fo:=F.opn 5
def FF(t:Tre):List Tre:=if au t=true then (foT t).norm.parts.trees else []
theorem Fo.Ht{F:Fo}(h:F.ok):F.parts.ok:=Fo.wD (Fo.lB h)
theorem Fo.JJ{F:Fo}(h:F.ok):F.ways.ok:=Fo.wD h
theorem Fo.DI{F:Fo}(h:F.ok):F.parts.noK 4∧F.parts.noK 0:=⟨Fo.sF (Fo.lB h),Fo.pV (Fo.lB h) (Fo.pX F)⟩
theorem Fo.F3{F:Fo}(h:F.ok):F.ways.noK 5:=Fo.sY h
theorem Fo.Jb(F:Fo):Fo.put dF F=Fo.join dF dU F.parts:=rfl
theorem Fo.Ix(F:Fo):Fo.put j6 F=Fo.join j6 j9 F.ways:=by
 unfold Fo.put;rw[if_neg (by decide),if_pos (by decide)];rfl
theorem xI{m:Nod}{c:Int}(h:fits m c=true)(hk:m.kind=0)(hb:m.kids=[]):m=dU∧c=0:=by
 obtain⟨k,s,t,a,b,l⟩:=m;simp only at hk hb;subst hk;subst hb;simp[fits] at h;obtain⟨⟨⟨⟨h1,h2⟩,h3⟩,h4⟩,h5⟩:=h;subst h1;subst h2;subst h3;subst h4;exact⟨rfl,h5⟩
theorem Fo.NQ{F:Fo}(h:F.len=0):F=.nil:=by
 cases F with
 | nil=>rfl
 | cons m j r=>simp[Fo.len] at h
theorem Fo.Bz{F:Fo}(h1:F.len=1)(hf:F.fb):Fo.join dF dU F.parts=F:=by
 obtain⟨m,j,rfl⟩:=Fo.one h1;obtain⟨⟨g1,g2,g3⟩,_⟩:=Fo.bH.1 hf;unfold Fo.parts;simp only[Fo.b5]
 by_cases h0:m.kind=0
 ·obtain⟨rfl,hc⟩:=xI g1 h0 g2;have:j=.nil:=Fo.NQ (by omega);subst this;rw[if_pos h0];rfl
 ·rw[if_neg h0];simp only[Fo.opn]
  by_cases h4:m.kind=4
  ·obtain⟨rfl,hc⟩:=dh g1 h4 g2;rw[if_pos h4,Fo.wW,Fo.dN _ _ (by omega)]
  ·rw[if_neg h4];rfl
theorem Fo.E9{F:Fo}(h1:F.len=1)(hf:F.fb):Fo.join j6 j9 F.ways=F:=by
 obtain⟨m,j,rfl⟩:=Fo.one h1;obtain⟨⟨g1,g2,g3⟩,_⟩:=Fo.bH.1 hf;unfold Fo.ways;simp only[Fo.opn]
 by_cases h5:m.kind=5
 ·obtain⟨rfl,hc⟩:=dm g1 h5 g2;rw[if_pos h5,Fo.wW,Fo.dN _ _ (by omega)]
 ·rw[if_neg h5];rfl
def qH(n:Nod)(c:Int):Bool:=if n.kind=4∨n.kind=5 then fits n 2 else fits n c
def iz(n:Nod)(l:List Tre):Tre×Bool:=if (qH n l.length&&re l)=true then (cP (Fo.put n (foL l).norm),true) else (.zero,false)
theorem oM{n:Nod}{l:List Tre}(h1:qH n l.length=true)(h2:re l=true):iz n l=(cP (Fo.put n (foL l).norm),true):=by unfold iz;rw[h1,h2];rfl
theorem tT{n:Nod}{l:List Tre}(h1:qH n l.length=false):iz n l=(.zero,false):=by unfold iz;rw[h1];rfl
theorem o4{n:Nod}{l:List Tre}(h1:re l=false):iz n l=(.zero,false):=by unfold iz;rw[h1,Bool.and_false];rfl
theorem Fo.Bb{n:Nod}{K:Fo}(hK:K.ok):(Fo.put n K).ok:=by
 unfold Fo.put
 split
 ·rename_i hk;have hp:=Fo.Ht hK;have h4:=Fo.DI hK;show(Fo.join n dU K.parts).ok
  generalize K.parts=p at *;rcases Fo.dc n dU p with ⟨rfl,e⟩|⟨a,b,rfl,e⟩|⟨h2,e⟩<;>rw[e]
  ·exact Fo.Dc (by decide) (by decide)
  ·exact hp
  ·exact⟨fun _=>h4,fun h=>by omega,hp,trivial⟩
 ·split
  ·rename_i hk;have hp:=Fo.JJ hK;have h5:=Fo.F3 hK;show(Fo.join n j9 K.ways).ok
   generalize K.ways=p at *;rcases Fo.dc n j9 p with ⟨rfl,e⟩|⟨a,b,rfl,e⟩|⟨h2,e⟩<;>rw[e]
   ·exact Fo.Dc (by decide) (by decide)
   ·exact hp
   ·exact⟨fun h=>by omega,fun _=>h5,hp,trivial⟩
  ·rename_i h4 h5;exact⟨fun h=>absurd h h4,fun h=>absurd h h5,hK,trivial⟩
theorem Ma{n:Nod}{l:List Tre}(hb:n.kids=[])(hk:(n.kind=4∨n.kind=5)→2≤l.length):iz n l=if (ofP n l).2=true then gw (ofP n l).1 else (.zero,false):=by
 have hfk:qH n l.length=fits n l.length:=by
  unfold qH
  split
  ·rename_i h;have h2:=hk h;rw[Bool.eq_iff_iff]
   constructor
   ·intro hf;rcases h with h|h
    ·obtain⟨rfl,_⟩:=dh hf h hb;exact lb (by omega)
    ·obtain⟨rfl,_⟩:=dm hf h hb;exact kV (by omega)
   ·intro hf;rcases h with h|h
    ·obtain⟨rfl,_⟩:=dh hf h hb;exact lb (by omega)
    ·obtain⟨rfl,_⟩:=dm hf h hb;exact kV (by omega)
  ·rfl
 rw[Ku]
 cases hf:fits n l.length with
 | false=>rw[tT (by rw[hfk,hf])];rfl
 | true=>
  cases hr:re l with
  | false=>rw[o4 hr];rfl
  | true=>
   have hR:=lD.1 hr;obtain⟨h1,h2,_⟩:=vi hf hR;rw[oM (by rw[hfk,hf]) hr];simp only[Bool.and_self,if_true];rw[lK (nB.2 h1),h2];have e:({ n with kids:=[] }:Nod)=n:=by rw[←hb]
   rw[e,Fo.norm,Fo.norm,Fo.wW]
theorem IC{n:Nod}(hn:n=dF∨n=j6)(t:Tre):iz n [t]=gw t:=by
 cases hr:au t with
 | false=>rw[yC hr,o4 (by simp[re,hr])]
 | true=>
  obtain⟨h1,h2⟩:=xx hr;have hfb:=Fo.xw h1;have hl:(foT t).norm.len=1:=by rw[Fo.oZ,h2]
  rw[lK hr,oM (by rcases hn with rfl|rfl<;>rfl) (by simp[re,hr])];have e:foL [t]=foT t:=by simp[foL,Fo.wW]
  rw[e];rcases hn with rfl|rfl
  ·rw[Fo.Jb,Fo.Bz hl hfb]
  ·rw[Fo.Ix,Fo.E9 hl hfb]
theorem Fo.rM{k:Int}:∀{F:Fo},F.dwf→(F.opn k).dwf
 | .nil,h=>h
 | .cons m j r,h=>by
  simp only[Fo.opn]
  split
  ·exact(Fo.oD _ _).2 ⟨h.2.1,Fo.rM h.2.2⟩
  ·exact⟨h.1,h.2.1,Fo.rM h.2.2⟩
theorem Fo.pr:∀{F:Fo},F.dwf→F.b5.dwf
 | .nil,h=>h
 | .cons m j r,h=>by
  simp only[Fo.b5]
  split
  ·exact Fo.pr h.2.2
  ·exact⟨h.1,h.2.1,Fo.pr h.2.2⟩
theorem Fo.zn{m e:Nod}{p:Fo}(hm:({ m with kids:=[] }:Nod).wf)(he:e.wf)(hp:p.dwf):(Fo.join m e p).dwf:=by
 rcases Fo.dc m e p with ⟨rfl,h⟩|⟨a,b,rfl,h⟩|⟨_,h⟩<;>rw[h]
 ·exact⟨he.wf0,trivial,trivial⟩
 ·exact hp
 ·exact⟨hm,hp,trivial⟩
theorem vk{n:Nod}(h:0≤n.kind∧n.kind≤255)(hs:n.set=.zero)(ht:n.text=⟨#[]⟩)(h1:n.min=0)(h2:n.max=0)(hk:n.kids=[]):n.wf:=by
 refine⟨h,by rw[hs];exact Nod.a7.set,by rw[ht];exact Nod.a7.text,by rw[h1];exact Nod.a7.min,by rw[h2];exact Nod.a7.max,by rw[hk];exact Nod.a7.kids⟩
theorem FQ:j9.wf:=vk (by decide) rfl rfl rfl rfl rfl
theorem oh:dF.wf:=vk (by decide) rfl rfl rfl rfl rfl
theorem Fo.Cz{n:Nod}{K:Fo}(hn:({ n with kids:=[] }:Nod).wf)(hK:K.dwf):(Fo.put n K).dwf:=by
 unfold Fo.put
 split
 ·exact Fo.zn hn vq (Fo.rM (Fo.pr hK))
 ·split
  ·exact Fo.zn hn FQ (Fo.rM hK)
  ·exact⟨hn,hK,trivial⟩
theorem Fo.pq:∀{F:Fo},F.dwf→F.norm.dwf
 | .nil,h=>h
 | .cons m j r,h=>by
  rw[Fo.norm];exact(Fo.oD _ _).2 ⟨Fo.Cz h.1 (Fo.pq h.2.1),Fo.pq h.2.2⟩
theorem Fo.AI(F:Fo):F.parts.size≤F.size:=Nat.le_trans (Fo.lg _) (Fo.m5 _)
theorem Fo.zC(n:Nod)(K:Fo):(Fo.put n K).size≤K.size+1:=by
 unfold Fo.put
 split
 ·exact Nat.le_trans (Fo.mq _ _ _) (by have:=Fo.AI K;unfold Fo.parts at this;omega)
 ·split
  ·exact Nat.le_trans (Fo.mq _ _ _) (by have:=Fo.lg (k:=5) K;omega)
  ·simp only[Fo.size];omega
theorem zt(F:Fo):(cP F).nodes.length=F.size:=Fo.cC F 0
theorem tW(n:Nod)(l:List Tre):(iz n l).1.nodes.length≤tot l+1:=by
 cases h1:qH n l.length with
 | false=>rw[tT h1];exact Nat.zero_le _
 | true=>
  cases h2:re l with
  | false=>rw[o4 h2];exact Nat.zero_le _
  | true=>
   rw[oM h1 h2];show(cP _).nodes.length≤_
   rw[zt,←js (lD.1 h2)];exact Nat.le_trans (Fo.zC _ _) (Nat.succ_le_succ (Fo.jd _))
theorem CH{n:Nod}{l:List Tre}(hn:n.wf)(hl:∀t∈l,t.wf)(ht:tot l+1≤ca):(iz n l).1.wf:=by
 cases h1:qH n l.length with
 | false=>rw[tT h1];exact Tre.a7
 | true=>
  cases h2:re l with
  | false=>rw[o4 h2];exact Tre.a7
  | true=>
   rw[oM h1 h2];refine rm (Fo.Cz hn.wf0 (Fo.pq (xt hl))) (Nat.le_trans (Fo.zC _ _) ?_);have:=Fo.jd (foL l);rw[js (lD.1 h2)] at this;omega
def n8(t:Tre):Tre×Bool:=match FF t with
 | []=>(.zero,false)
 | x :: _=>(x,true)
def CJ(t:Tre):Tre×Bool:=match FF t with
 | []=>(.zero,false)
 | _ :: l=>iz dF l
theorem NT.root{t:Tre}{m:Nod}{j:Fo}(h:NT t (.cons m j .nil)):a9 t=m:=by
 obtain⟨F,hF⟩:=rz h.right;rw[h.fo] at hF
 injection hF with h1
 exact h1.symm
theorem NT.tree{m:Nod}{j r:Fo}(h:(Fo.cons m j r).fb)(ho:(Fo.cons m j r).ok):NT (cP (.cons m j .nil)) (.cons m j .nil):=by
 have h':=Fo.bH.1 h;exact⟨rfl,rfl,Fo.bH.2 ⟨h'.1,Fo.pI⟩,ho.1,ho.2.1,ho.2.2.1,trivial⟩
structure HT(t:Tre):Prop where
 same:(n8 t).2=(CJ t).2
 has:(n8 t).2=((gw t).2 && !decide ((a9 (gw t).1).kind=0))
 no:(n8 t).2=false→(n8 t).1=.zero∧(CJ t).1=.zero
 put:(n8 t).2=true→iz dF [(n8 t).1,(CJ t).1]=gw t∧(a9 (n8 t).1).kind≠4∧(a9 (n8 t).1).kind≠0∧(∃F,NT (n8 t).1 F)∧∃F,NT (CJ t).1 F
def gB(ns:List Nod)(n:Nod):Bool:=!(decide (n.kind=4)||decide (n.kind=5))||n.kids.all fun k=>!(decide (aR ns k=n.kind)||(decide (aR ns k=0)&&decide (n.kind=4)))
def dM(t:Tre):Bool:=au t&&t.nodes.all (gB t.nodes)
theorem yQ{ns:List Nod}{k:Int}{f:Nat}(hf:0<f):∀(l:List Int),(aE ns f l).noK k↔∀x∈l,aR ns x≠k
 | []=>by rw[ay];simp[Fo.noK]
 | x :: l=>by
  obtain⟨g,rfl⟩:∃g,f=g+1:=⟨f - 1,by omega⟩
  rw[aL];simp only[Fo.noK,List.mem_cons,forall_eq_or_imp];rw[yQ hf l];rfl
def KU(ns:List Nod)(x:Int):Prop:=(aR ns x=4→∀y∈ae ns x,aR ns y≠4∧aR ns y≠0)∧(aR ns x=5→∀y∈ae ns x,aR ns y≠5)
theorem xd{ns:List Nod}(hc:bw (ae ns)):∀(f:Nat) (l:List Int),(∀k∈l,0≤k∧k<(f:Int))→f≤ns.length→((aE ns f l).ok↔∀x∈dfs (ae ns) f l,KU ns x)
 | 0,l,hl,_=>by
  cases l with
  | nil=>simp[ay,bk,Fo.ok]
  | cons k l=>have:=hl k (by simp);omega
 | f+1,[],_,_=>by simp[ay,bk,Fo.ok]
 | f+1,k :: l,hl,hf=>by
  have hk:=hl k (by simp);have hch:∀x∈ae ns k,0≤x∧x<(f:Int):=fun x hx=>by have:=hc k x hx;omega
  have ih1:=xd hc f (ae ns k) hch (by omega);have ih2:=xd hc (f+1) l (fun x hx=>hl x (by simp[hx])) hf;have e:dfs (ae ns) (f+1) (ae ns k)=dfs (ae ns) f (ae ns k):=lE hc _ _ _ (fun x hx=>by have:=hch x hx;omega) (fun x hx=>(hch x hx).2);rw[aL,aM hc hk.1 (by omega),e];have hkind:(dat ns k).kind=aR ns k:=rfl;have hno:∀q:Int,(aE ns f (ae ns k)).noK q↔∀x∈ae ns k,aR ns x≠q:=by
   intro q
   by_cases h0:0<f
   ·exact yQ h0 _
   ·have:ae ns k=[]:=by
     cases hcc:ae ns k with
     | nil=>rfl
     | cons x r=>have:=hch x (by rw[hcc];simp);omega
    rw[this,ay];simp[Fo.noK]
  constructor
  ·rintro⟨h4,h5,hj,hr⟩ x hx
   rw[hkind] at h4 h5;rcases List.mem_cons.1 hx with rfl|hx
   ·exact⟨fun h y hy=>⟨(hno 4).1 (h4 h).1 y hy,(hno 0).1 (h4 h).2 y hy⟩,fun h y hy=>(hno 5).1 (h5 h) y hy⟩
   ·rcases List.mem_append.1 hx with hx|hx
    ·exact ih1.1 hj x hx
    ·exact ih2.1 hr x hx
  ·intro h;have hk0:=h k (by simp);exact⟨fun h4=>⟨(hno 4).2 fun y hy=>(hk0.1 h4 y hy).1,(hno 0).2 fun y hy=>(hk0.1 h4 y hy).2⟩,fun h5=>(hno 5).2 (hk0.2 h5),ih1.2 (fun x hx=>h x (by simp[hx])),ih2.2 (fun x hx=>h x (by simp[hx]))⟩
theorem B2{t:Tre}(h:au t=true):dM t=true↔(foT t).ok:=by
 have hR:=aq h;have hm:=(wi hR).mem;unfold foT;rw[xd hR.kok.ae t.nodes.length [t.root] (by intro k hk;simp at hk;subst hk;exact hR.root) (Nat.le_refl _),dM,h,Bool.true_and,List.all_eq_true];have hkey:∀(i:Nat) n,t.nodes[i]?=some n→(gB t.nodes n=true↔KU t.nodes i):=by
  intro i n hn;have hk:aR t.nodes (i:Int)=n.kind:=by unfold aR;rw[List.getD_eq_getElem?_getD,Int.toNat_natCast,hn];rfl
  unfold KU;rw[hk,←aI hn];unfold gB
  by_cases h4:n.kind=4
  ·simp[h4]
  ·by_cases h5:n.kind=5
   ·simp[h5]
   ·simp[h4,h5]
 constructor
 ·intro hall x hx;have hx':=(hm x).1 hx;obtain⟨i,rfl⟩:∃i:Nat,x=i:=⟨x.toNat,by omega⟩
  have hg:=List.getElem?_eq_getElem (show i<t.nodes.length by omega);exact(hkey i _ hg).1 (hall _ (List.getElem_mem _))
 ·intro hall n hn;obtain⟨i,hi⟩:=List.mem_iff_getElem?.1 hn;have hlt:=(List.getElem?_eq_some_iff.1 hi).1;exact(hkey i n hi).2 (hall i ((hm i).2 ⟨by omega,by omega⟩))
theorem NT.normal{t:Tre}{F:Fo}(h:NT t F):dM t=true:=(B2 h.right).2 (by rw[h.fo];exact h.ok)
theorem AU{t:Tre}(h:au t=false):dM t=false:=by unfold dM;rw[h];rfl
def nc(n:Nod)(K:Fo):Tre×Bool:=if qH n K.len=true then (cP (Fo.put n K),true) else (.zero,false)
theorem Ei{t:Tre}(h:au t=true):∃F,foT t=.cons (a9 t) F .nil∧F.fb∧(a9 t).kids=[]∧fits (a9 t) F.len=true∧cA t=F.trees:=by
 obtain⟨F,hF⟩:=rz h;have hfb:=(xx h).1;rw[hF] at hfb;obtain⟨⟨h1,h2,h3⟩,_⟩:=Fo.bH.1 hfb;exact⟨F,hF,h3,h2,h1,by rw[cA,if_pos h,hF];rfl⟩
end Go.aa
end
section
namespace Go.Km
open Go Go.Vc Go.Proofs Go.aa
abbrev inF(k:Int):F:=.vl (.int .i64 k)
abbrev byF(k:Int):F:=.vl (.int .u8 k)
abbrev boF(b:Bool):F:=.vl (.bool b)
abbrev stF(s:ByteArray):F:=.vl (.string s)
abbrev ikF(k:Int):List F:=[inF k]
abbrev btF(b:Bts):List F:=[.vl (.int .u64 b.a),.vl (.int .u64 b.b),.vl (.int .u64 b.c),.vl (.int .u64 b.d)]
abbrev aU(n:Nod):List F:=[byF n.kind,.vl (.int .u64 n.set.a),.vl (.int .u64 n.set.b),.vl (.int .u64 n.set.c),.vl (.int .u64 n.set.d),stF n.text,inF n.min,inF n.max,.sl (n.kids.map ikF)]
abbrev fO(t:Tre):List F:=[.sl (t.nodes.map aU),inF t.root]
abbrev az(t:Tre):F:=.ag (fO t)
abbrev mA(l:List Tre):F:=.sl (l.map fO)
abbrev isF(l:List Int):F:=.sl (l.map ikF)
instance:kP ikF 1:=⟨fun _=>rfl⟩
instance:kP aU 9:=⟨fun _=>rfl⟩
instance:kP fO 2:=⟨fun _=>rfl⟩
abbrev C(f:Nat)(l:List F)(r:F)(b:Bool)(pre:Prop):Prop:=KC Tryz.prog X1.Γ f l r b pre
theorem IJ(s t:ByteArray):eqS s t=decide (s=t):=r8 s t
end Go.Km
end
section
namespace Go.Proofs.YtoklkjkmbfebjaaGreatDoor
open Go Go.Sl Go.RowKit
theorem JF:(Tryz.prog.info? 5).map (fun i=>(i.zero,i.size,i.bytes))=some (some (.int .u8 0),1,1):=by kernel_rfl
theorem Ip:Tryz.prog.cellsOf 5=1:=by kernel_rfl
set_option maxHeartbeats 4000000 in
set_option maxRecDepth 100000 in
theorem Bf(s:ByteArray)(w:World)(hlim:s.size≤281474976710656) :
  Calls Tryz.prog 129 #[.string s] w fun e w'=>e=.returned (.string s)∧Below w.heap.size w w':=by
 by_cases h0:s.size=0
 ·have hs:s=⟨#[]⟩:=by
   apply ByteArray.ext;exact Array.eq_empty_of_size_eq_zero h0
  subst hs
  go_enter Tryz.func129,Tryz.ntmps129
  go_wp2
  go_ret
  exact⟨rfl,Below.refl _ _⟩
 ·obtain⟨i0,hi,hz0,hz1,hz2⟩:=info_parts JF;have hinfo:(Tryz.prog.info? 5).map (·.size)=some 1:=by rw[hi];simp[hz1]
  have hco:=Ip;obtain⟨M,hM⟩:=exEq (madeCells (Value.int .u8 0).cells (((s.size:Nat):Int).toNat * i0.size));have hMs:M.size=s.size:=by rw[hM,size_madeCells,hz1];simp
  have hmk:∀W:World,(Instr.makeSlice 185 (.int .i64 (s.size:Int)) (.int .i64 (s.size:Int))).run Tryz.prog W=.ok (.slice (some ⟨W.heap.size,0,none⟩) s.size s.size) (W.alloc (.cells M 5)):=fun W=>by
   have h:=run_make (P:=Tryz.prog) W 185 5 i0 (.int .u8 0) Tryz.underlying185 hi hz0 .i64 .i64 (s.size:Int) (s.size:Int) (by omega) (by omega) (by rw[hz2];omega) (by omega);rw[←hM] at h;simpa using h
  clear hM;have hcp:=Lib.run_copy_row_string (P:=Tryz.prog) (w.alloc (.cells M 5)) 185 9 3 5 w.heap.size 0 s.size s.size s M 5 Tryz.underlying185 hinfo (heap_alloc_new w _) (Nat.le_refl _) (by omega);obtain⟨Y,hY⟩:=exEq ((M.toList.take 0++Lib.byteCells s.data.toList++M.toList.drop (0+s.size)).toArray);rw[←hY] at hcp;have hYl:Y.toList=Lib.byteCells s.data.toList:=by
   rw[hY,List.toList_toArray,List.take_zero,List.nil_append,List.drop_of_length_le (by rw[Array.length_toList];omega),List.append_nil]
  have hYs:Y.size=s.size:=by rw[←Array.length_toList,hYl,Lib.byteCells_length,←Lib.size_eq]
  have hgY:((w.alloc (.cells M 5)).setRow w.heap.size Y).heap[w.heap.size]?=some (.cells Y 5 (0,0)):=setRow_heap _ _ M _ 5 (0,0) (heap_alloc_new w _);have hne:s.data.toList≠[]:=fun e=>h0 (by rw[Lib.size_eq,e];rfl)
  have hUS:=Lib.run_unsafeString_row (P:=Tryz.prog) ((w.alloc (.cells M 5)).setRow w.heap.size Y) 199 3 9 5 Tryz.underlying199 hco w.heap.size Y.size (by unfold World.shape?;rw[hgY]) s.data.toList hne (by rw[←Lib.size_eq];omega) (by rw[←Lib.size_eq];omega)
   (fun j x hx=>Lib.cells_of_row hgY Y.size j _ (by rw[List.take_of_length_le (by rw[Array.length_toList];exact Nat.le_refl _),hYl];simp[Lib.byteCells,hx]))
  rw[←Lib.size_eq] at hUS;clear hY
  go_enter Tryz.func129,Tryz.ntmps129
  go_wp2
  go_ret
  have hb1:Below w.heap.size w (w.alloc (.cells M 5)):=(Below.refl _ w).alloc (Nat.le_refl _) _;have hb2:Below w.heap.size (w.alloc (.cells M 5)) ((w.alloc (.cells M 5)).setRow w.heap.size Y):=⟨rfl,rfl,rfl,by simp,fun k hk=>setRow_other _ _ _ _ (by omega)⟩
  exact⟨rfl,Lib.below_freeze (hb1.trans hb2) (p:=⟨w.heap.size,0,none⟩) (Nat.le_refl _) _⟩
end Go.Proofs.YtoklkjkmbfebjaaGreatDoor
namespace Go.Km
open Go Go.Vc Go.Proofs Go.aa Go.RowKit
open Go.Sl hiding lk
set_option maxRecDepth 100000
set_option maxHeartbeats 0
theorem nZ{Z:Nat→Prop}{w:World}:∀{l:List Value} {vs:List Value},F.ah Z w (l.map .vl) vs→vs=l
 | [],vs,h=>by simpa [F.ah] using h
 | v :: l,vs,h=>by
  rw[List.map_cons] at h;unfold F.ah at h;obtain⟨u,us,rfl,h1,h2⟩:=h;unfold F.rep at h1;rw[h1,nZ h2]
theorem Pure.ofV{P:Program}{Γ:Nat→Option (List F)}{f:FuncId}[hc:CF P f]{l:List Value}{v:Value}(H:∀w,Calls P f l.toArray w (fun e w'=>e=.returned v∧Below w.heap.size w w')):Pure P Γ f (l.map .vl) (.vl v) true:=
 ⟨hc,fun Z w vs hZ hG hr=>by
  rw[nZ hr];exact(H w).mono (fun e w' ⟨h1,h2⟩=>⟨v,h1,h2,by unfold F.rep;rfl⟩)⟩
instance(s:ByteArray):C 129 [stF s] (stF s) true (s.size≤281474976710656):=⟨fun h=>Pure.ofV (l:=[.string s]) fun w=>Go.Proofs.YtoklkjkmbfebjaaGreatDoor.Bf s w h⟩
instance(s:ByteArray):C 110 [stF s] (stF s) true (s.size≤281474976710656):=⟨fun hs=>by
 refine kf rfl rfl ?_;repeat' (first|exact k9|refine k2 ?_|apply kA|apply kI;intro hc|refine k8 ?_|apply kL;intro hl)⟩
end Go.Km
end
section
namespace Go.Km
open Go Go.Vc Go.Proofs Go.aa
set_option maxRecDepth 100000
set_option maxHeartbeats 0
instance(b:Int):C 108 [byF b] (boF (iE b)) true True:=⟨fun _=>by
 refine kf rfl rfl ?_;repeat' first|exact k9|refine k2 ?_|apply kA|apply kI;intro hc|refine k8 ?_|apply kL;intro hl
 all_goals (refine ao.b ?_ rfl;rw[Bool.eq_iff_iff];simp[iE,dd];try omega)⟩
instance(b:Int):C 109 [byF b] (boF (tH b)) true True:=⟨fun _=>by
 refine kf rfl rfl ?_;repeat' first|exact k9|refine k2 ?_|apply kA|apply kI;intro hc|refine k8 ?_|apply kL;intro hl
 all_goals (refine ao.b ?_ rfl;rw[Bool.eq_iff_iff];simp[tH,dt];try omega)⟩
theorem rK{s:ByteArray}(h:0<s.size):ly s.data.toList=iE ((s.data.toList[0]'h).toNat:Int):=by
 have hz0:0<s.data.toList.length:=h;show ly s.data.toList=iE ((s.data.toList[0]'hz0).toNat:Int)
 generalize s.data.toList=l at hz0
 match l,hz0 with
 | b :: l,_=>rfl
theorem yP{s:ByteArray}{i:Nat}(h:i≤s.size):(lC s 0 i).size=i:=by
 rw[xb];simp[h]
theorem pa{s:ByteArray}{j:Nat}(hh:ly s.data.toList=true)(hj:j≤s.size)(hg:∀i b,i<j→s.data.toList[i]?=some b→fa b=true)(he:∀b,s.data.toList[j]?=some b→fa b=false):lC s 0 j=fQ s:=by
 rw[xb,fQ,if_pos hh,vc s.data.toList j hj hg he]
theorem B5{s:ByteArray}(h:ly s.data.toList=false):fQ s=⟨#[]⟩:=by simp[fQ,h]
instance(s:ByteArray):C 94 [stF s] (stF (fQ s)) true (s.size≤281474976710656):=⟨fun hs=>by
 refine kf rfl rfl ?_;repeat' first|exact k9|refine k2 ?_|apply kA|apply kI;intro hc|refine k8 ?_|apply kL;intro hl
 ·refine ao.s ?_ rfl;rw[hc];rfl
 ·rename_i h0
  replace h0:=h0.2
  have hh:ly s.data.toList=true:=by rw[rK h0];exact hc
  apply kCt [0,3] [];conv=>whnf
  refine Lp.ind (fun j:Nat=>s.size - j) (fun j=>0<j∧j≤s.size∧∀i b,i<j→s.data.toList[i]?=some b→fa b=true) (fun j=>[(3,InD j)]) (fun _=>[]) (fun _=>(stF (fQ s),true)) 1 ⟨by omega,by omega,fun i b hi hb=>?_⟩ rfl rfl rfl ?_
  ·have:i=0:=by omega
   subst this;rw[List.getElem?_eq_getElem h0] at hb
   cases hb;unfold fa;rw[hc];rfl
  rintro G j ih ⟨hj0,hj,hg⟩
  repeat' first|exact k9|refine k2 ?_|apply kA|apply kI;intro hc|refine k8 ?_|apply kL;intro hl
  ·rename_i hl;apply kCt [0,3] [];conv=>whnf
   refine ih (j+1) _ _ _ (by omega) ⟨by omega,by omega,fun i b hi hb=>?_⟩ rfl rfl rfl;rcases Nat.lt_or_ge i j with h1|h1
   ·exact hg i b h1 hb
   ·have:i=j:=by omega
    subst this;rw[List.getElem?_eq_getElem hl] at hb
    cases hb;unfold fa;rw[hc];rfl
  ·rename_i hl hc0 hl0;apply kCt [0,3] [];conv=>whnf
   refine ih (j+1) _ _ _ (by omega) ⟨by omega,by omega,fun i b hi hb=>?_⟩ rfl rfl rfl;rcases Nat.lt_or_ge i j with h1|h1
   ·exact hg i b h1 hb
   ·have:i=j:=by omega
    subst this;rw[List.getElem?_eq_getElem hl] at hb
    cases hb;unfold fa;rw[hc,Bool.or_true]
  ·exact⟨by rw[yP hj];omega⟩
  ·rename_i _ _ hc0;refine ao.s (pa hh hj hg fun b hb=>?_) rfl;rw[List.getElem?_eq_getElem hl] at hb
   cases hb;unfold fa;rw[hc,hc0];rfl
  ·exact⟨by rw[yP hj];omega⟩
  ·refine ao.s (pa hh hj hg fun b hb=>?_) rfl;rw[List.getElem?_eq_none (by have:s.data.toList.length=s.size:=rfl;omega)] at hb
   cases hb
 ·rename_i h0
  replace h0:=h0.2
  refine ao.s ?_ rfl;rw[B5];rw[rK h0];exact hc⟩
instance(s:ByteArray):C 75 [stF s] (boF (gD s)) true (s.size≤281474976710656):=⟨fun hs=>by
 refine kf rfl rfl ?_;repeat' first|exact k9|refine k2 ?_|apply kA|apply kI;intro hc|refine k8 ?_|apply kL;intro hl
 ·exact ao.b (by rw[hc];rfl) rfl
 ·refine ao.b ?_ rfl;rename_i h0;rw[dd,jG,jG,yb,decide_eq_false (p:=s=⟨#[]⟩) h0.1,decide_eq_true (p:=(s.size:Int)≤32) hc];simp
 ·refine ao.b ?_ rfl;rw[yb,decide_eq_false (p:=(s.size:Int)≤32) (by omega)];simp⟩
set_option maxRecDepth 100000
set_option maxHeartbeats 0
theorem Dt(kind sa sb sc sd:Int)(text:ByteArray)(lo hi:Int)(K:List (List F))(k:Int)(kids:List Int)(hk:0≤kind∧kind≤255)(ht:text.size≤140737488355328) :
  Pure Tryz.prog X1.Γ 51 [.ag [byF kind,.vl (.int .u64 sa),.vl (.int .u64 sb),.vl (.int .u64 sc),.vl (.int .u64 sd),stF text,inF lo,inF hi,.sl K],inF k] (boF (fits ⟨kind,⟨sa,sb,sc,sd⟩,text,lo,hi,kids⟩ k)) true:=by
 by_cases h10:10≤kind
 ·refine kf rfl rfl ?_;repeat' first|exact k9|refine k2 ?_|apply kA|apply kI;intro hc|refine k8 ?_|apply kL;intro hl
  refine ao.b ?_ rfl;unfold fits;simp only;rw[if_neg (by omega),if_neg (by omega),if_neg (by omega),if_neg (by omega),if_neg (by omega),if_neg (by omega),if_neg (by omega),if_neg (by omega)]
 ·have:kind=0∨kind=1∨kind=2∨kind=3∨kind=4∨kind=5∨kind=6∨kind=7∨kind=8∨kind=9:=by omega
  rcases this with rfl|rfl|rfl|rfl|rfl|rfl|rfl|rfl|rfl|rfl
  all_goals refine kf rfl rfl ?_
  all_goals repeat' first|exact k9|refine k2 ?_|apply kA|apply kI;intro hc|refine k8 ?_|apply kL;intro hl
  all_goals refine ao.b ?_ rfl
  all_goals clear hk h10
  all_goals simp_all [fits,dd,dt,kM,Bts.zero]
  all_goals try omega
instance(kind sa sb sc sd:Int)(text:ByteArray)(lo hi:Int)(K:List (List F))(k:Int):C 51 [.ag [byF kind,.vl (.int .u64 sa),.vl (.int .u64 sb),.vl (.int .u64 sc),.vl (.int .u64 sd),stF text,inF lo,inF hi,.sl K],inF k] (boF (fits ⟨kind,⟨sa,sb,sc,sd⟩,text,lo,hi,[]⟩ k)) true ((⟨kind,⟨sa,sb,sc,sd⟩,text,lo,hi,[]⟩:Nod).wf):=⟨fun h=>Dt kind sa sb sc sd text lo hi _ k [] h.kind (Nat.le_trans h.text (by decide))⟩
instance(n:Nod)(k:Int):C 51 [.ag (aU n),inF k] (boF (fits n k)) true (n.wf):=⟨fun h=>Dt n.kind n.set.a n.set.b n.set.c n.set.d n.text n.min n.max _ k n.kids h.kind (Nat.le_trans h.text (by decide))⟩
end Go.Km
end
