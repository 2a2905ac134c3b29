/- The texts that the card needs, part 4. -/
import Derived.Test.YtpbichnnflabdaaGreatDoorPC2
set_option linter.all false
section
namespace Go.Vc
open Go Go.RowKit Go.Sl
theorem KU(x y:ByteArray):x++y=⟨(x.data.toList++y.data.toList).toArray⟩:=by
 apply ByteArray.ext;apply Array.ext';simp
def F.flat:F→Bool
 |.vl _=>true
 |.ag cs=>lu cs
 |.tp cs=>lu cs
 |.cl _ cs=>lu cs
 |_=>false
where lu:List F→Bool
 |[]=>true
 |x::l=>x.flat&&lu l
mutual
theorem s6{Z Z':Nat→Prop}{w w':World}:∀(x:F) (u:Value),x.flat=true→F.rep Z w x u→F.rep Z' w' x u
 |.vl x,u,_,h=>by unfold F.rep at h ⊢;exact h
 |.sl _,u,hf,h=>by simp[F.flat]at hf
 |.pt _ _ _ _,u,hf,h=>by simp[F.flat]at hf
 |.ag cs,u,hf,h=>by unfold F.rep at h ⊢;obtain⟨vs,h1,h2⟩:=h;exact⟨vs,h1,jq cs vs (by simpa [F.flat]using hf) h2⟩
 |.tp cs,u,hf,h=>by unfold F.rep at h ⊢;obtain⟨vs,h1,h2⟩:=h;exact⟨vs,h1,jq cs vs (by simpa [F.flat]using hf) h2⟩
 |.cl f cs,u,hf,h=>by unfold F.rep at h ⊢;obtain⟨vs,h1,h2⟩:=h;exact⟨vs,h1,jq cs vs (by simpa [F.flat]using hf) h2⟩
theorem jq{Z Z':Nat→Prop}{w w':World}:∀(l:List F) (us:List Value),F.flat.lu l=true→F.ah Z w l us→F.ah Z' w' l us
 |[],us,_,h=>by unfold F.ah at h ⊢;exact h
 |x::l,us,hf,h=>by
  unfold F.ah at h ⊢;simp only[F.flat.lu,Bool.and_eq_true]at hf;obtain⟨u,us',h1,h2,h3⟩:=h;exact⟨u,us',h1,s6 x u hf.1 h2,jq l us' hf.2 h3⟩
end
section
variable {P:Program}{Γ:Nat→Option (List F)}{η:Env}{f:FuncId}{l:List D}{fl:List F}{r:F}{fr:Bool}{k:Ks}{is:List Nat}
structure rJ(P:Program)(Γ:Nat→Option (List F))(η:Env)(f:FuncId)(l:List D)(k:Ks):Prop where
 go:∀(W:Bs) c O w vs,GOk Γ c→Hp c O η w→Old W c O w→D.ah c l vs→CF P f∧Calls P f vs.toArray w (fun e w'=>∃v,e=.returned v∧Res W η c k v w')
theorem A9:kB P Γ (fun _=>rJ P Γ):=fun _ η f l k h W c O w vs h1 h2 h3 h4=>h.go W c O w vs h1 h2 h3 h4
def cgr(c:Cf)(w w':World):Cf:=⟨c.ι,w',fun g=>c.Z g∨(w.heap.size≤g∧g<w'.heap.size)⟩
section
variable {c:Cf}{O:Nat→Nat→Prop}{w w':World}{W:Bs}
theorem Cc(hp:Hp c O η w)(hb:Below w.heap.size w w'):Ext c.Z c.R (cgr c w w').Z (cgr c w w').R:=
 ⟨fun g h=>.inl h,fun g h=>(hb.block g (hp.fz g h).1).trans (hp.fz g h).2.1⟩
theorem AK(hp:Hp c O η w)(hb:Below w.heap.size w w'):c.le (cgr c w w'):=⟨fun _ _ _ h=>h,Cc hp hb⟩
theorem Hp.grow(hp:Hp c O η w)(hb:Below w.heap.size w w'):Hp (cgr c w w') O η w':=by
 have hle:=AK hp hb;refine⟨fun b x hx=>(hp.pc b x hx).le hle (fun g hg=>hb.block g (hp.lt b g hg)),hp.bound,hp.apart,fun g hg=>?_,fun b g hg=>Nat.lt_of_lt_of_le (hp.lt b g hg) hb.size⟩;rcases hg with hg|hg
 ·exact⟨Nat.lt_of_lt_of_le (hp.fz g hg).1 hb.size,rfl,(hp.fz g hg).2.2⟩
 ·refine⟨hg.2,rfl,fun b h=>?_⟩;have:=hp.lt b g h;omega
theorem Old.grow(hp:Hp c O η w)(ho:Old W c O w)(hb:Below w.heap.size w w'):Old W (cgr c w w') O w':=by
 refine⟨hb.os.trans ho.os,hb.tape.trans ho.tape,hb.output.trans ho.output,Nat.le_trans ho.size hb.size,fun g hg hn=>?_,ho.own,fun g hg=>?_,ho.le.trans (Cc hp hb)⟩
 ·rw[hb.block g (Nat.lt_of_lt_of_le hg ho.size)];exact ho.cv g hg hn
 ·rcases hg with hg|hg
  ·exact ho.mF g hg
  ·exact .inr (.inr (Nat.le_trans ho.size hg.1))
end
theorem rJ.mM(hm:cB (D.toF η 6) l=some (fl,is))(h:Pure P Γ f fl r fr)(hk:k r.toD is (aU η is)):rJ P Γ η f l k:=by
 refine⟨fun W c O w vs hΓ hp ho hvs=>⟨h.cf,?_⟩⟩;have hfl:=fN (jC hp is 6) hm (fun b h=>h) hvs;have hp1:=hp.fz_ is (dD (gC 6) hm);have ho1:=ho.fz_ hp is;have hle1:=qC hp is;refine(h.run (Zf c O is) w vs (fun g hg=>(hp1.fz g hg).1) (fun g cs hg=>F.rep.ext hle1.ext _ _ (hΓ g cs hg)) hfl).mono ?_
 rintro e w' ⟨v,rfl,hb,hr⟩
 refine⟨v,rfl,r.toD,is,aU η is,cgr (cfz c O is w) w w',Ofz O is,hk,hle1.trans (AK hp1 hb),o3 (F.rep.ext ⟨fun g hg=>?_,fun _ _=>rfl⟩ _ _ hr),hp1.grow hb,ho1.grow hp1 hb⟩;rcases hg with hg|hg
 ·exact .inl hg.2
 ·exact .inr hg
theorem rJ.look(hm:cB (D.toF η 6) l=some (fl,is))(h:Pure P Γ f fl r fr)(hf:r.flat=true∨fr=true)(hk:k r.toD is []):rJ P Γ η f l k:=by
 refine⟨fun W c O w vs hΓ hp ho hvs=>⟨h.cf,?_⟩⟩;have hfl:=fN (jC hp is 6) hm (fun b h=>h) hvs;have hp1:=hp.fz_ is (dD (gC 6) hm);have hle1:=qC hp is;refine(h.run (Zf c O is) w vs (fun g hg=>(hp1.fz g hg).1) (fun g cs hg=>F.rep.ext hle1.ext _ _ (hΓ g cs hg)) hfl).mono ?_
 rintro e w' ⟨v,rfl,hb,hr⟩
 refine⟨v,rfl,r.toD,is,[],cgr c w w',O,hk,AK hp hb,o3 ?_,hp.grow hb,ho.grow hp hb⟩;rcases hf with hf|rfl
 ·exact s6 r v hf hr
 ·refine F.rep.ext ⟨fun g hg=>?_,fun _ _=>rfl⟩ _ _ hr;rcases hg with hg|hg
  ·cases hg.1
  ·exact .inr hg
structure GDr(P:Program)(Γ:Nat→Option (List F))(η:Env)(f:FuncId)(l:List D)(k:Ks):Prop where
 go:∃fl is r fr,cB (D.toF η 6) l=some (fl,is)∧Pure P Γ f fl r fr∧(is=[]∨r.flat=true∨fr=true)∧k r.toD is []
theorem GDr.mM(hm:cB (D.toF η 6) l=some (fl,is))(h:Pure P Γ f fl r fr)(hi:is=[]∨r.flat=true∨fr=true)(hk:k r.toD is []):GDr P Γ η f l k:=⟨fl,is,r,fr,hm,h,hi,hk⟩
theorem vo:kB P Γ (fun _=>GDr P Γ):=by
 intro _ η f l k ⟨fl,is,r,fr,hm,h,hi,hk⟩ W c O w vs h1 h2 h3 h4;rcases hi with rfl|hi
 ·exact(rJ.mM hm h (k:=k) hk).go W c O w vs h1 h2 h3 h4
 ·exact(rJ.look hm h hi hk).go W c O w vs h1 h2 h3 h4
theorem C3:wR (fun _=>GDr P Γ):=by
 intro _ η f l k ⟨fl,is,r,fr,hm,h,hi,hk⟩;refine⟨_,_,_,hk,fun η' hη=>⟨fl,is,r,fr,?_,h,hi,by trivial,by trivial,by trivial⟩⟩;exact ft (fun d x is'' h3 h4=>fG 6 d x is'' h3 (fun b' hb'=>hη b' (h4 b' hb'))) hm
inductive Tr where
 |e
 |n (v:Option TI) (l r:Tr)
def Tr.get:Tr→Nat→Option TI
 |.e,_=>none
 |.n v l r,t=>bif Nat.beq t 0 then v else bif Nat.beq (t % 2) 0 then l.get (t/2)else r.get (t/2)
def Tr.list:Tr→(Nat→Nat)→List (Nat×TI)
 |.e,_=>[]
 |.n v l r,q=>(match v with|some i=>[(q 0,i)]|none=>[])++(l.list (fun k=>q (2*k))++r.list (fun k=>q (2*k+1)))
theorem Tr.mem:∀(tr:Tr) (q:Nat→Nat) (t:Nat) (i:TI),tr.get t=some i→(q t,i)∈tr.list q
 |.e,q,t,i,h=>by simp[Tr.get]at h
 |.n v l r,q,t,i,h=>by
  simp only[Tr.get]at h;simp only[Tr.list,List.mem_append]
  cases h0:Nat.beq t 0 with
  |true=>
   have:=Nat.eq_of_beq_eq_true h0;subst this;simp at h;subst h;exact .inl (by simp)
  |false=>
   rw[h0]at h;simp only[cond_false]at h
   cases h1:Nat.beq (t % 2) 0 with
   |true=>
    rw[h1]at h;have h2:=Nat.eq_of_beq_eq_true h1;have:=Tr.mem l (fun k=>q (2*k)) (t/2) i h;rw[show 2*(t/2)=t by omega]at this;exact .inr (.inl this)
   |false=>
    rw[h1]at h;have h2:t % 2≠0:=fun e=>by rw[e]at h1;simp at h1
    have:=Tr.mem r (fun k=>q (2*k+1)) (t/2) i h;rw[show 2*(t/2)+1=t by omega]at this;exact .inr (.inr this)
def Tys(P:Program):List (Nat×TI)→Prop
 |[]=>True
 |p::l=>TOk P p.1 p.2∧Tys P l
theorem Tys.mem{P:Program}:∀{l:List (Nat×TI)}{p:Nat×TI},Tys P l→p∈l→TOk P p.1 p.2
 |[],p,_,hm=>by simp at hm
 |q::l,p,h,hm=>by
  rcases List.mem_cons.1 hm with rfl|hm
  ·exact h.1
  ·exact Tys.mem h.2 hm
end
end Go.Vc
end
section
namespace Go.Vc
open Go Go.RowKit Go.Sl
def Mk:TypeDesc→Bool
 |.struct _=>true
 |.array _ _=>true
 |_=>false
def Nc(P:Program)(f:Field):Option (Nat×Nat×Bool):=match P.info? f.type,P.underlying f.type with
 |some i,some d=>some (f.offset,i.size,Mk d)
 |_,_=>none
def zV(P:Program):List Field→Option (List (Nat×Nat×Bool))
 |[]=>some []
 |f::l=>match Nc P f,zV P l with
  |some a,some b=>some (a::b)
  |_,_=>none
def z7(P:Program)(z:Option Value):TypeDesc→Option TK
 |.int k=>some (.int k)
 |.float k=>some (.flt k)
 |.complex k=>some (.cpx k)
 |.bool=>some .bool
 |.string=>some .str
 |.slice e=>(match P.info? e with
  |some i=>(match i.zero with
   |some z=>bif Nat.blt 0 i.size&&Nat.beq z.cells.size i.size then some (.sl e i.size i.bytes)else some .oth
   |none=>some .oth)
  |none=>some .oth)
 |.struct fs=>(match z with
  |some (.agg c)=>bif cb c.toList&&Nat.ble c.size 200 then(match zV P fs.toList with|some l=>some (.st l)|none=>none)else none
  |_=>none)
 |.array n e=>(match P.info? e with|some i=>some (.ar n e i.size)|none=>none)
 |.map k e=>some (.mp k e)
 |.func _ _ _=>some .fn
 |.pointer e=>(match P.info? e with
  |some i=>bif Nat.blt 0 i.size then some .ptr else some .oth
  |none=>some .oth)
 |.tuple _=>none
 |_=>some .oth
def zI(b:Bool):Option Value→List Value
 |some (.agg c)=>bif b&&(cb c.toList&&Nat.ble c.size 200)then c.toList else[]
 |some v=>bif !b&&cb [v]then[v]else[]
 |none=>[]
def HZ(P:Program)(t:Nat):Option TI:=match P.underlying t,P.info? t with
 |some d,some i=>(match z7 P i.zero d with
  |some k=>some ⟨i.size,zI k.agg i.zero,k⟩
  |none=>none)
 |_,_=>none
theorem Ip{b:Bool}{z:Option Value}(h:zI b z≠[]):∃v,z=some v∧v.cells=(zI b z).toArray∧cb (zI b z)=true∧(b=true→v=.agg (zI b z).toArray)∧(b=false→zI b z=[v]):=by
 unfold zI at h ⊢
 split at h
 ·rename_i c
  cases hc:(b&&(cb c.toList&&Nat.ble c.size 200))with
  |false=>rw[hc]at h;exact(h rfl).elim
  |true=>
   have hc2:=hc;simp only[Bool.and_eq_true]at hc2;refine⟨_,rfl,?_⟩;rw[cond_true];refine⟨rfl,hc2.2.1,fun _=>rfl,fun hb=>?_⟩;rw[hb]at hc2
   cases hc2.1
 ·rename_i v hv
  cases hc:(!b&&cb [v])with
  |false=>rw[hc]at h;exact(h rfl).elim
  |true=>
   have hc2:=hc;simp only[Bool.and_eq_true,Bool.not_eq_true']at hc2;refine⟨_,rfl,?_⟩;rw[cond_true];refine⟨?_,hc2.2,fun hb=>?_,fun _=>rfl⟩
   ·cases v<;>first|rfl|(exact absurd rfl (hv _))
   ·rw[hc2.1]at hb
    cases hb
 ·exact(h rfl).elim
theorem EM{α β γ:Type}(x:Sem α)(f:α→Sem β)(g:β→Sem γ):(x >>= f) >>= g=x >>= fun a=>f a >>= g:=by
 induction x with
 |pure a=>rfl
 |load m a k ih=>exact congrArg (Sem.load m a) (funext fun v=>ih v)
 |store m a v k ih=>exact congrArg (Sem.store m a v) ih
 |new o k ih=>exact congrArg (Sem.new o) (funext fun v=>ih v)
 |shape n k ih=>exact congrArg (Sem.shape n) (funext fun v=>ih v)
 |freeze a n k ih=>exact congrArg (Sem.freeze a n) ih
 |frozen a k ih=>exact congrArg (Sem.frozen a) (funext fun v=>ih v)
 |getObj n k ih=>exact congrArg (Sem.getObj n) (funext fun v=>ih v)
 |setObj n o k ih=>exact congrArg (Sem.setObj n o) ih
 |choose q k ih=>exact congrArg (Sem.choose q) (funext fun v=>ih v)
 |sys q k ih=>exact congrArg (Sem.sys q) (funext fun v=>ih v)
 |program k ih=>exact congrArg Sem.program (funext fun v=>ih v)
 |mark m k ih=>exact congrArg (Sem.mark m) ih
 |halt h=>rfl
theorem Mx{α:Type}(x:Sem α):(x >>= fun a=>pure a)=x:=by
 induction x with
 |pure a=>rfl
 |load m a k ih=>exact congrArg (Sem.load m a) (funext fun v=>ih v)
 |store m a v k ih=>exact congrArg (Sem.store m a v) ih
 |new o k ih=>exact congrArg (Sem.new o) (funext fun v=>ih v)
 |shape n k ih=>exact congrArg (Sem.shape n) (funext fun v=>ih v)
 |freeze a n k ih=>exact congrArg (Sem.freeze a n) ih
 |frozen a k ih=>exact congrArg (Sem.frozen a) (funext fun v=>ih v)
 |getObj n k ih=>exact congrArg (Sem.getObj n) (funext fun v=>ih v)
 |setObj n o k ih=>exact congrArg (Sem.setObj n o) ih
 |choose q k ih=>exact congrArg (Sem.choose q) (funext fun v=>ih v)
 |sys q k ih=>exact congrArg (Sem.sys q) (funext fun v=>ih v)
 |program k ih=>exact congrArg Sem.program (funext fun v=>ih v)
 |mark m k ih=>exact congrArg (Sem.mark m) ih
 |halt h=>rfl
instance:LawfulMonad Sem:=LawfulMonad.mk' Sem (id_map:=fun x=>Mx x) (pure_bind:=fun _ _=>rfl) (bind_assoc:=fun x f g=>EM x f g)
theorem Eb{α β:Type}{P:Program}{w:World}{f:α→Sem β}{g:α→β}(arr0:Array α)(h:∀x∈arr0,(f x).run P w=.ok (g x) w):(arr0.mapM f).run P w=.ok (arr0.map g) w:=by
 have key:∀(l:List α) (bs:Array β),(∀x∈l,(f x).run P w=.ok (g x) w)→(l.foldlM (fun bs a=>Functor.map bs.push (f a)) bs).run P w=.ok (bs++(l.map g).toArray) w:=by
  intro l
  induction l with
  |nil=>intro bs _;simp[Sem.run_pure]
  |cons a l ih=>
   intro bs hl;rw[List.foldlM_cons,Sem.run_bind,map_eq_pure_bind,Sem.run_bind,hl a (by simp),Result.andThen_ok];rw[show Sem.run P (pure (bs.push (g a))) w=.ok (bs.push (g a)) w from rfl,Result.andThen_ok,ih _ fun x hx=>hl x (by simp[hx])];simp
 rw[Array.mapM_eq_foldlM,←Array.foldlM_toList,key arr0.toList #[] fun x hx=>h x (by simpa using hx)];rw[show #[]++(arr0.toList.map g).toArray=arr0.map g from Array.ext' (by simp)]
theorem yF{P:Program}{t:Nat}{fs:Array Field}(hu:P.underlying t=some (.struct fs)):∀(k:Nat) (l:List Field) (r:List (Nat×Nat×Bool)),(∀j,l[j]?=fs[k+j]?)→zV P l=some r→r.length=l.length∧(∀(j o s:Nat) (g:Bool),r[j]?=some (o,s,g)→∃f i,l[j]?=some f∧P.info? f.type=some i∧o=f.offset∧s=i.size∧(0<s→FA P t (k+j) o)∧FX P t (k+j) o s g)
 |k,[],r,hl,h=>by
  rw[zV]at h
  cases h;exact⟨rfl,fun j o s g hj=>by simp at hj⟩
 |k,f::l,r,hl,h=>by
  rw[zV]at h
  split at h
  ·rename_i a b ha hb
   cases h;obtain⟨h1,h2⟩:=yF hu (k+1) l b (fun j=>by have:=hl (j+1);rw[List.getElem?_cons_succ]at this;rw[this];congr 1;omega) hb;refine⟨by rw[List.length_cons,List.length_cons,h1],fun j o s g hj=>?_⟩
   cases j with
   |zero=>
    simp only[List.getElem?_cons_zero,Option.some.injEq]at hj;subst hj;unfold Nc at ha
    split at ha
    ·rename_i i d hi hd
     cases ha;have hf:fs[k+0]?=some f:=by rw[←hl 0];rfl
     refine⟨f,i,rfl,hi,rfl,rfl,fun hs=>FA.of hu hf rfl ?_,?_⟩
     ·rw[hi];show some (Nat.blt 0 i.size)=some true
      rw[show Nat.blt 0 i.size=true from Nat.ble_eq_true_of_le hs]
     ·cases hg:Mk d with
      |false=>exact FX.of1 hu hf rfl hd (by cases d<;>first|rfl|cases hg)
      |true=>exact FX.ofA hu hf rfl hd (by cases d<;>first|rfl|cases hg) (by rw[hi];rfl)
    ·cases ha
   |succ j=>
    obtain⟨f',i,q1,q2,q3,q4,q5,q6⟩:=h2 j o s g (by simpa using hj);exact⟨f',i,by simpa using q1,q2,q3,q4,by rw[show k+(j+1)=k+1+j by omega];exact q5,by rw[show k+(j+1)=k+1+j by omega];exact q6⟩
  ·cases h
def KOk(P:Program)(t:Nat)(k:TK)(z:List Value):Prop:=match k with
 |.int k=>UD P t (.int k)
 |.flt k=>UD P t (.float k)
 |.cpx k=>UD P t (.complex k)
 |.bool=>UD P t .bool
 |.str=>UD P t .string
 |.sl e sz by_=>∃z,SlT P t e sz by_ z
 |.st fs=>(∀j o s g,fs[j]?=some (o,s,g)→(0<s→FA P t j o)∧FX P t j o s g)∧PL P t (.agg z.toArray) (fs.map fun p=>(p.1,p.2.1)).toArray
 |.ar len e sz=>AT P t len e sz∧(z≠[]→ZV P t (.agg z.toArray))
 |.mp k e=>UD P t (.map k e)
 |.fn=>∃a b c,UD P t (.func a b c)
 |.ptr=>∃e n,UD P t (.pointer e)∧SZ P e n∧0<n
 |.oth=>True
theorem HC{P:Program}{t:Nat}{i:TI}(h:HZ P t=some i):TOk P t i:=by
 unfold HZ at h
 split at h
 ·rename_i d inf hu hi
  split at h
  ·rename_i k hk
   cases h;have hsz:SZ P t inf.size:=⟨⟨inf,hi,rfl⟩⟩
   have hs:(P.info? t).map (·.size)=some inf.size:=by rw[hi];rfl
   have zv:∀v,inf.zero=some v→ZV P t v:=fun v hv=>ZV.of (by rw[hi];show some inf.zero=_;rw[hv])
   have hz:zI k.agg inf.zero≠[]→∃v,ZV P t v∧v.cells=(zI k.agg inf.zero).toArray∧cb (zI k.agg inf.zero)=true:=fun hne=>by
    obtain⟨v,h1,h2,h3,_⟩:=Ip hne;exact⟨v,zv v h1,h2,h3⟩
   have hzd:zI k.agg inf.zero≠[]→match k.agg with
     |true=>ZV P t (.agg (zI k.agg inf.zero).toArray)
     |false=>∀u,zI k.agg inf.zero=[u]→ZV P t u:=fun hne=>by
    obtain⟨v,h1,h2,h3,h4,h5⟩:=Ip hne
    split
    ·rename_i hb;rw[←h4 hb];exact zv v h1
    ·rename_i hb;intro u hu2;rw[h5 hb]at hu2
     cases hu2;exact zv v h1
   have ha:k.agg=Mk d∧KOk P t k (zI k.agg inf.zero):=by
    clear hz hzd
    cases d with
    |int k'=>cases hk;exact⟨rfl,⟨hu⟩⟩
    |float k'=>cases hk;exact⟨rfl,⟨hu⟩⟩
    |complex k'=>cases hk;exact⟨rfl,⟨hu⟩⟩
    |bool=>cases hk;exact⟨rfl,⟨hu⟩⟩
    |string=>cases hk;exact⟨rfl,⟨hu⟩⟩
    |map k' e=>cases hk;exact⟨rfl,⟨hu⟩⟩
    |func a b c=>cases hk;exact⟨rfl,_,_,_,⟨hu⟩⟩
    |tuple a=>cases hk
    |slice e=>
     simp only[z7]at hk
     split at hk
     ·rename_i ie hie
      split at hk
      ·rename_i z hz0
       cases hc:(Nat.blt 0 ie.size&&Nat.beq z.cells.size ie.size)with
       |false=>rw[hc]at hk;cases hk;exact⟨rfl,trivial⟩
       |true=>
        rw[hc]at hk
        cases hk;rw[Bool.and_eq_true]at hc;exact⟨rfl,z,SlT.of hu (by rw[hie];show some (ie.zero,ie.size,ie.bytes)=_;rw[hz0]) (Nat.eq_of_beq_eq_true hc.2) hc.1⟩
      ·cases hk;exact⟨rfl,trivial⟩
     ·cases hk;exact⟨rfl,trivial⟩
    |array n e=>
     simp only[z7]at hk
     split at hk
     ·rename_i ie hie
      cases hk;refine⟨rfl,⟨hu,ie,hie,rfl⟩,fun hne=>?_⟩;obtain⟨v,h1,h2,h3,h4,h5⟩:=Ip hne;rw[←h4 rfl];exact zv v h1
     ·cases hk
    |pointer e=>
     simp only[z7]at hk
     split at hk
     ·rename_i ie hie
      cases hc:Nat.blt 0 ie.size with
      |false=>rw[hc]at hk;cases hk;exact⟨rfl,trivial⟩
      |true=>rw[hc]at hk;cases hk;exact⟨rfl,e,ie.size,⟨hu⟩,⟨⟨ie,hie,rfl⟩⟩,Nat.le_of_ble_eq_true hc⟩
     ·cases hk;exact⟨rfl,trivial⟩
    |struct fs=>
     simp only[z7]at hk
     split at hk
     ·rename_i c hz0
      cases hc:(cb c.toList&&Nat.ble c.size 200)with
      |false=>rw[hc]at hk;cases hk
      |true=>
       rw[hc,cond_true]at hk
       split at hk
       ·rename_i l hl
        cases hk;obtain⟨q1,q2⟩:=yF hu 0 fs.toList l (fun j=>by simp) hl;refine⟨rfl,fun j o s g hj=>?_,?_⟩
        ·obtain⟨f,i,_,_,_,_,r1,r2⟩:=q2 j o s g hj;rw[Nat.zero_add]at r1 r2;exact⟨r1,r2⟩
        ·have hzc:zI true inf.zero=c.toList:=by rw[hz0];simp only[zI,hc,Bool.true_and,cond_true]
         have e:(fs.map fun f=>(f.offset,((P.info? f.type).map (·.size)).getD 0))=(l.map fun p=>(p.1,p.2.1)).toArray:=by
          apply Array.ext';rw[Array.toList_map];apply List.ext_getElem?;intro j;rw[List.getElem?_map,List.getElem?_map]
          by_cases hj:j<l.length
          ·rw[List.getElem?_eq_getElem hj];obtain⟨f,i,r0,r1,r2,r3,_⟩:=q2 j l[j].1 l[j].2.1 l[j].2.2 (List.getElem?_eq_getElem hj);rw[r0];simp[r1,r2,r3]
          ·rw[List.getElem?_eq_none (by omega),List.getElem?_eq_none (by omega)];rfl
         show PL P t (.agg (zI true inf.zero).toArray) _
         rw[hzc,←e];refine PL.of (zv _ hz0).run hu fun w=>?_
         refine Eb fs fun f hf=>?_;obtain⟨j,hj,hjf⟩:=List.getElem_of_mem (show f∈fs.toList by simpa using hf);have hjl:j<l.length:=by omega
         obtain⟨f',i,r0,r1,_⟩:=q2 j l[j].1 l[j].2.1 l[j].2.2 (List.getElem?_eq_getElem hjl);rw[List.getElem?_eq_getElem hj,hjf]at r0
         cases r0;simp[sizeOf,typeInfo,r1]
       ·cases hk
     ·cases hk
    |_=>cases hk;exact⟨rfl,trivial⟩
   refine⟨hsz,hz,?_,(by have:=ha.2;unfold KOk at this;cases k<;>exact this),hzd⟩;dsimp only
   split
   ·rename_i hb;exact LN.of hu (by rw[ha.1]at hb;cases d<;>first|rfl|cases hb) hs
   ·rename_i hb;exact L1.of hu (by rw[ha.1]at hb;cases d<;>first|rfl|cases hb)
  ·cases h
 ·cases h
theorem Tr.raw{P:Program}{tr:Tr}(h:(tr.list fun k=>k).map (fun p=>HZ P p.1)=(tr.list fun k=>k).map fun p=>some p.2):∀t i,tr.get t=some i→TOk P t i:=fun t i hi=>by
 have hm:=Tr.mem tr (fun k=>k) t i hi;obtain⟨j,hj,e⟩:=List.getElem_of_mem hm;have:=congrArg (fun l=>l[j]?) h;simp only[List.getElem?_map,List.getElem?_eq_getElem hj,Option.map_some,e]at this;exact HC (Option.some.inj this)
end Go.Vc
end
section
namespace Go.Proofs.YtpbichnnflabdaaGreatDoor
open Go Go.Sl Go.Vc
set_option maxRecDepth 100000
def tyT:Tr:=(.n none (.n none (.n none (.n none (.n none (.n none (.n none (.n none (.n none .e (.n (some ⟨64,[(.int .u8 0),(.int .u8 0),(.int .u8 0),(.int .u8 0),(.int .u8 0),(.int .u8 0),(.int .u8 0),(.int .u8 0),(.int .u8 0),(.int .u8 0),(.int .u8 0),(.int .u8 0),(.int .u8 0),(.int .u8 0),(.int .u8 0),(.int .u8 0),(.int .u8 0),(.int .u8 0),(.int .u8 0),(.int .u8 0),(.int .u8 0),(.int .u8 0),(.int .u8 0),(.int .u8 0),(.int .u8 0),(.int .u8 0),(.int .u8 0),(.int .u8 0),(.int .u8 0),(.int .u8 0),(.int .u8 0),(.int .u8 0),(.int .u8 0),(.int .u8 0),(.int .u8 0),(.int .u8 0),(.int .u8 0),(.int .u8 0),(.int .u8 0),(.int .u8 0),(.int .u8 0),(.int .u8 0),(.int .u8 0),(.int .u8 0),(.int .u8 0),(.int .u8 0),(.int .u8 0),(.int .u8 0),(.int .u8 0),(.int .u8 0),(.int .u8 0),(.int .u8 0),(.int .u8 0),(.int .u8 0),(.int .u8 0),(.int .u8 0),(.int .u8 0),(.int .u8 0),(.int .u8 0),(.int .u8 0),(.int .u8 0),(.int .u8 0),(.int .u8 0),(.int .u8 0)],(.ar 64 5 1)⟩) .e .e)) .e) (.n (some ⟨1,[.nilFunc],.fn⟩) .e .e)) (.n (some ⟨5,[(.int .u8 0),(.int .u8 0),(.int .i64 0),(.slice none 0 0),(.int .i64 0)],(.st [(0,1,false),(1,1,false),(2,1,false),(3,1,false),(4,1,false)])⟩) .e .e)) (.n none .e (.n (some ⟨1,[.nilFunc],.fn⟩) (.n none .e (.n (some ⟨2,[(.int .i64 0),(.int .i64 0)],(.ar 2 3 1)⟩) .e .e)) (.n (some ⟨1,[.nilFunc],.fn⟩) .e .e)))) (.n (some ⟨4,[(.int .i64 0),(.int .i64 0),(.bool false),(.int .u8 0)],(.st [(0,1,false),(1,1,false),(2,1,false),(3,1,false)])⟩) (.n none (.n none .e (.n (some ⟨1,[(.slice none 0 0)],(.sl 39 2 32)⟩) .e (.n (some ⟨1,[(.pointer none)],.ptr⟩) .e .e))) (.n none .e (.n (some ⟨1,[.nilFunc],.fn⟩) .e (.n (some ⟨30,[(.string ⟨#[]⟩),(.string ⟨#[]⟩),(.string ⟨#[]⟩),(.string ⟨#[]⟩),(.string ⟨#[]⟩),(.string ⟨#[]⟩),(.string ⟨#[]⟩),(.string ⟨#[]⟩),(.string ⟨#[]⟩),(.string ⟨#[]⟩),(.string ⟨#[]⟩),(.string ⟨#[]⟩),(.string ⟨#[]⟩),(.string ⟨#[]⟩),(.string ⟨#[]⟩),(.string ⟨#[]⟩),(.string ⟨#[]⟩),(.string ⟨#[]⟩),(.string ⟨#[]⟩),(.string ⟨#[]⟩),(.string ⟨#[]⟩),(.string ⟨#[]⟩),(.string ⟨#[]⟩),(.string ⟨#[]⟩),(.string ⟨#[]⟩),(.string ⟨#[]⟩),(.string ⟨#[]⟩),(.string ⟨#[]⟩),(.string ⟨#[]⟩),(.string ⟨#[]⟩)],(.ar 10 231 3)⟩) .e .e)))) (.n (some ⟨1,[(.slice none 0 0)],(.st [(0,1,false)])⟩) (.n none .e (.n (some ⟨1,[.nilFunc],.fn⟩) .e .e)) (.n (some ⟨1,[.nilFunc],.fn⟩) (.n none .e (.n (some ⟨1,[.nilFunc],.fn⟩) .e .e)) (.n (some ⟨1,[.nilFunc],.fn⟩) .e .e))))) (.n (some ⟨1,[(.bool false)],.bool⟩) (.n none (.n none (.n none .e (.n (some ⟨14,[.nilFunc,.nilFunc,.nilFunc,.nilFunc,.nilFunc,.nilFunc,.nilFunc,.nilFunc,.nilFunc,.nilFunc,.nilFunc,.nilFunc,.nilFunc,.nilFunc],(.ar 7 67 2)⟩) .e (.n (some ⟨10,[.nilFunc,.nilFunc,.nilFunc,.nilFunc,.nilFunc,.nilFunc,.nilFunc,.nilFunc,.nilFunc,.nilFunc],(.ar 10 195 1)⟩) .e .e))) (.n (some ⟨1,[.nilFunc],.fn⟩) .e (.n (some ⟨1,[.nilFunc],.fn⟩) .e (.n (some ⟨1,[(.pointer none)],.ptr⟩) .e .e)))) (.n none .e (.n (some ⟨1,[.nilFunc],.fn⟩) .e (.n (some ⟨1,[.nilFunc],.fn⟩) .e (.n (some ⟨2,[(.int .u8 0),(.int .u8 0)],(.ar 2 5 1)⟩) .e .e))))) (.n none (.n none .e (.n (some ⟨4,[(.int .u64 0),(.int .u64 0),(.int .u64 0),(.int .u64 0)],(.ar 4 42 1)⟩) .e (.n (some ⟨66,[(.int .i64 0),(.int .u64 0),(.int .u64 0),(.int .u64 0),(.int .u64 0),(.int .u64 0),(.int .u64 0),(.int .u64 0),(.int .u64 0),(.int .u64 0),(.int .u64 0),(.int .u64 0),(.int .u64 0),(.int .u64 0),(.int .u64 0),(.int .u64 0),(.int .u64 0),(.int .u64 0),(.int .u64 0),(.int .u64 0),(.int .u64 0),(.int .u64 0),(.int .u64 0),(.int .u64 0),(.int .u64 0),(.int .u64 0),(.int .u64 0),(.int .u64 0),(.int .u64 0),(.int .u64 0),(.int .u64 0),(.int .u64 0),(.int .u64 0),(.int .u64 0),(.int .u64 0),(.int .u64 0),(.int .u64 0),(.int .u64 0),(.int .u64 0),(.int .u64 0),(.int .u64 0),(.int .u64 0),(.int .u64 0),(.int .u64 0),(.int .u64 0),(.int .u64 0),(.int .u64 0),(.int .u64 0),(.int .u64 0),(.int .u64 0),(.int .u64 0),(.int .u64 0),(.int .u64 0),(.int .u64 0),(.int .u64 0),(.int .u64 0),(.int .u64 0),(.int .u64 0),(.int .u64 0),(.int .u64 0),(.int .u64 0),(.int .u64 0),(.int .u64 0),(.int .u64 0),(.int .u64 0),(.int .u64 0)],(.st [(0,1,false),(1,64,true),(65,1,false)])⟩) .e (.n (some ⟨1,[.nilFunc],.fn⟩) .e .e)))) (.n none .e (.n none .e (.n none .e (.n (some ⟨1,[.nilFunc],.fn⟩) .e .e))))))) (.n (some ⟨1,[(.int .i64 0)],(.int .i64)⟩) (.n none (.n none (.n none (.n none (.n none (.n none .e (.n (some ⟨24,[(.int .u8 0),(.int .u8 0),(.int .u8 0),(.int .u8 0),(.int .u8 0),(.int .u8 0),(.int .u8 0),(.int .u8 0),(.int .u8 0),(.int .u8 0),(.int .u8 0),(.int .u8 0),(.int .u8 0),(.int .u8 0),(.int .u8 0),(.int .u8 0),(.int .u8 0),(.int .u8 0),(.int .u8 0),(.int .u8 0),(.int .u8 0),(.int .u8 0),(.int .u8 0),(.int .u8 0)],(.ar 24 5 1)⟩) .e .e)) .e) (.n (some ⟨2,[.nilFunc,.nilFunc],(.st [(0,1,false),(1,1,false)])⟩) .e (.n (some ⟨1,[(.slice none 0 0)],(.st [(0,1,false)])⟩) .e .e))) (.n none (.n none .e (.n (some ⟨1,[.nilFunc],.fn⟩) .e .e)) (.n (some ⟨1,[.nilFunc],.fn⟩) .e (.n (some ⟨3,[(.int .i64 0),(.int .i64 0),(.bool false)],(.st [(0,1,false),(1,1,false),(2,1,false)])⟩) .e .e)))) (.n none (.n none .e (.n (some ⟨1,[(.slice none 0 0)],(.sl 86 1 24)⟩) .e .e)) (.n (some ⟨1,[.nilFunc],.fn⟩) .e (.n (some ⟨1,[(.map none)],(.mp 9 3)⟩) .e (.n (some ⟨1,[(.slice none 0 0)],(.sl 244 2 2)⟩) .e .e))))) (.n (some ⟨1,[(.string ⟨#[]⟩)],.str⟩) (.n none (.n none .e (.n (some ⟨6,[(.int .i64 0),(.slice none 0 0),(.slice none 0 0),(.int .i64 0),(.int .u8 0),(.slice none 0 0)],(.st [(0,2,true),(2,2,true),(4,1,false),(5,1,false)])⟩) .e .e)) (.n (some ⟨1,[(.int .u64 0)],(.int .u64)⟩) .e (.n (some ⟨64,[(.int .u64 0),(.int .u64 0),(.int .u64 0),(.int .u64 0),(.int .u64 0),(.int .u64 0),(.int .u64 0),(.int .u64 0),(.int .u64 0),(.int .u64 0),(.int .u64 0),(.int .u64 0),(.int .u64 0),(.int .u64 0),(.int .u64 0),(.int .u64 0),(.int .u64 0),(.int .u64 0),(.int .u64 0),(.int .u64 0),(.int .u64 0),(.int .u64 0),(.int .u64 0),(.int .u64 0),(.int .u64 0),(.int .u64 0),(.int .u64 0),(.int .u64 0),(.int .u64 0),(.int .u64 0),(.int .u64 0),(.int .u64 0),(.int .u64 0),(.int .u64 0),(.int .u64 0),(.int .u64 0),(.int .u64 0),(.int .u64 0),(.int .u64 0),(.int .u64 0),(.int .u64 0),(.int .u64 0),(.int .u64 0),(.int .u64 0),(.int .u64 0),(.int .u64 0),(.int .u64 0),(.int .u64 0),(.int .u64 0),(.int .u64 0),(.int .u64 0),(.int .u64 0),(.int .u64 0),(.int .u64 0),(.int .u64 0),(.int .u64 0),(.int .u64 0),(.int .u64 0),(.int .u64 0),(.int .u64 0),(.int .u64 0),(.int .u64 0),(.int .u64 0),(.int .u64 0)],(.ar 64 42 1)⟩) .e (.n (some ⟨1,[(.pointer none)],.oth⟩) .e .e)))) (.n none (.n none (.n none .e (.n (some ⟨1,[.nilFunc],.fn⟩) .e .e)) (.n (some ⟨3,[(.int .u8 0),.nilFunc,.nilFunc],(.st [(0,1,false),(1,1,false),(2,1,false)])⟩) .e (.n (some ⟨1,[(.pointer none)],.ptr⟩) .e .e))) (.n none .e (.n (some ⟨1,[.nilFunc],.fn⟩) .e (.n (some ⟨1,[(.int .u64 0)],(.int .u64)⟩) .e .e)))))) (.n (some ⟨1,[(.int .u8 0)],(.int .u8)⟩) (.n none (.n none (.n none (.n none .e (.n (some ⟨1,[.nilFunc],.fn⟩) .e .e)) (.n none .e (.n (some ⟨1,[(.pointer none)],.ptr⟩) .e .e))) (.n none .e (.n (some ⟨1,[.nilFunc],.fn⟩) .e .e))) (.n (some ⟨1,[(.slice none 0 0)],(.sl 41 3 48)⟩) (.n none .e (.n (some ⟨1,[(.slice none 0 0)],(.sl 143 3 3)⟩) .e .e)) (.n (some ⟨1,[.nilFunc],.fn⟩) (.n none .e (.n (some ⟨1,[(.slice none 0 0)],(.sl 211 2 16)⟩) .e .e)) (.n (some ⟨1,[.nilFunc],.fn⟩) .e (.n (some ⟨9,[(.int .i64 0),(.int .i64 0),(.string ⟨#[]⟩),(.int .i64 0),(.int .i64 0),(.string ⟨#[]⟩),(.int .i64 0),(.int .i64 0),(.string ⟨#[]⟩)],(.ar 3 245 3)⟩) .e .e))))) (.n none (.n none (.n none .e (.n none .e (.n (some ⟨1,[.nilIface],.oth⟩) .e .e))) (.n (some ⟨9,[(.int .u8 0),(.int .u64 0),(.int .u64 0),(.int .u64 0),(.int .u64 0),(.string ⟨#[]⟩),(.int .i64 0),(.int .i64 0),(.slice none 0 0)],(.st [(0,1,false),(1,4,true),(5,1,false),(6,1,false),(7,1,false),(8,1,false)])⟩) .e (.n (some ⟨1,[.nilFunc],.fn⟩) .e .e))) (.n (some ⟨1,[(.slice none 0 0)],(.sl 3 1 8)⟩) (.n none (.n none .e (.n (some ⟨1,[.nilFunc],.fn⟩) .e .e)) (.n none .e (.n (some ⟨1,[.nilFunc],.fn⟩) .e .e))) (.n (some ⟨1,[.nilFunc],.fn⟩) (.n none .e (.n (some ⟨1,[.nilFunc],.fn⟩) .e .e)) .e)))))) (.n (some ⟨1,[.nilFunc],.fn⟩) (.n none (.n none (.n none (.n none (.n none .e (.n (some ⟨1,[.nilFunc],.fn⟩) .e .e)) (.n none .e (.n (some ⟨1,[.nilFunc],.fn⟩) .e .e))) (.n (some ⟨1,[(.pointer none)],.ptr⟩) .e (.n (some ⟨1,[.nilFunc],.fn⟩) (.n none .e (.n (some ⟨20,[(.int .i64 0),(.int .i64 0),(.int .i64 0),(.int .i64 0),(.int .i64 0),(.int .i64 0),(.int .i64 0),(.int .i64 0),(.int .i64 0),(.int .i64 0),(.int .i64 0),(.int .i64 0),(.int .i64 0),(.int .i64 0),(.int .i64 0),(.int .i64 0),(.int .i64 0),(.int .i64 0),(.int .i64 0),(.int .i64 0)],(.ar 10 176 2)⟩) .e .e)) (.n (some ⟨1,[.nilFunc],.fn⟩) .e .e)))) (.n (some ⟨1,[(.string ⟨#[]⟩)],.str⟩) (.n none (.n none .e (.n none .e (.n (some ⟨1,[(.slice none 0 0)],(.sl 5 1 1)⟩) .e .e))) (.n (some ⟨3,[(.string ⟨#[]⟩),(.slice none 0 0),(.int .i64 0)],(.st [(0,1,false),(1,2,true)])⟩) .e (.n (some ⟨64,[(.int .u64 0),(.int .u64 0),(.int .u64 0),(.int .u64 0),(.int .u64 0),(.int .u64 0),(.int .u64 0),(.int .u64 0),(.int .u64 0),(.int .u64 0),(.int .u64 0),(.int .u64 0),(.int .u64 0),(.int .u64 0),(.int .u64 0),(.int .u64 0),(.int .u64 0),(.int .u64 0),(.int .u64 0),(.int .u64 0),(.int .u64 0),(.int .u64 0),(.int .u64 0),(.int .u64 0),(.int .u64 0),(.int .u64 0),(.int .u64 0),(.int .u64 0),(.int .u64 0),(.int .u64 0),(.int .u64 0),(.int .u64 0),(.int .u64 0),(.int .u64 0),(.int .u64 0),(.int .u64 0),(.int .u64 0),(.int .u64 0),(.int .u64 0),(.int .u64 0),(.int .u64 0),(.int .u64 0),(.int .u64 0),(.int .u64 0),(.int .u64 0),(.int .u64 0),(.int .u64 0),(.int .u64 0),(.int .u64 0),(.int .u64 0),(.int .u64 0),(.int .u64 0),(.int .u64 0),(.int .u64 0),(.int .u64 0),(.int .u64 0),(.int .u64 0),(.int .u64 0),(.int .u64 0),(.int .u64 0),(.int .u64 0),(.int .u64 0),(.int .u64 0),(.int .u64 0)],(.ar 64 42 1)⟩) .e .e))) (.n (some ⟨1,[.nilFunc],.fn⟩) (.n none .e (.n (some ⟨3,[(.int .u8 0),.nilFunc,.nilFunc],(.st [(0,1,false),(1,1,false),(2,1,false)])⟩) .e .e)) (.n (some ⟨1,[.nilFunc],.fn⟩) (.n none .e (.n (some ⟨1,[.nilFunc],.fn⟩) .e .e)) (.n (some ⟨1,[.nilFunc],.fn⟩) .e .e))))) (.n (some ⟨1,[(.int .u8 0)],(.int .u8)⟩) (.n none (.n none (.n none (.n none .e (.n (some ⟨1,[(.slice none 0 0)],(.sl 4 1 1)⟩) .e .e)) (.n (some ⟨1,[.nilFunc],.fn⟩) .e .e)) (.n (some ⟨1,[(.slice none 0 0)],(.sl 46 9 96)⟩) .e (.n (some ⟨1,[.nilFunc],.fn⟩) .e .e))) (.n none .e (.n none (.n none .e (.n (some ⟨1,[.nilFunc],.fn⟩) .e .e)) (.n (some ⟨1,[.nilFunc],.fn⟩) .e (.n (some ⟨3,[(.int .i64 0),(.int .i64 0),(.string ⟨#[]⟩)],(.st [(0,1,false),(1,1,false),(2,1,false)])⟩) .e .e))))) (.n none (.n none .e (.n none .e (.n none .e (.n (some ⟨1,[.nilFunc],.fn⟩) .e .e)))) (.n none (.n none (.n none .e (.n (some ⟨1,[.nilFunc],.fn⟩) .e .e)) .e) (.n (some ⟨1,[.nilFunc],.fn⟩) .e (.n (some ⟨4,[(.slice none 0 0),(.int .i64 0),(.int .i64 0),(.int .i64 0)],(.st [(0,2,true),(2,1,false),(3,1,false)])⟩) .e (.n (some ⟨1,[.nilFunc],.fn⟩) .e .e))))))) (.n (some ⟨1,[(.int .i64 0)],(.int .i64)⟩) (.n none (.n none (.n none (.n none .e (.n (some ⟨2,[.nilFunc,.nilFunc],(.st [(0,1,false),(1,1,false)])⟩) .e (.n (some ⟨1,[.nilFunc],.fn⟩) .e .e))) (.n none .e (.n (some ⟨1,[.nilFunc],.fn⟩) .e (.n (some ⟨1,[(.slice none 0 0)],(.sl 226 3 24)⟩) .e .e)))) (.n none (.n none .e (.n none .e (.n (some ⟨2,[(.int .i64 0),(.int .i64 0)],(.st [(0,1,false),(1,1,false)])⟩) .e .e))) (.n (some ⟨1,[.nilFunc],.fn⟩) (.n none .e (.n (some ⟨1,[.nilFunc],.fn⟩) .e .e)) (.n (some ⟨1,[.nilFunc],.fn⟩) .e .e)))) (.n (some ⟨1,[(.string ⟨#[]⟩)],.str⟩) (.n none (.n none .e (.n none .e (.n (some ⟨2,[(.pointer none),(.slice none 0 0)],(.st [(0,1,false),(1,1,false)])⟩) .e .e))) (.n none .e (.n (some ⟨66,[(.int .i64 0),(.int .u64 0),(.int .u64 0),(.int .u64 0),(.int .u64 0),(.int .u64 0),(.int .u64 0),(.int .u64 0),(.int .u64 0),(.int .u64 0),(.int .u64 0),(.int .u64 0),(.int .u64 0),(.int .u64 0),(.int .u64 0),(.int .u64 0),(.int .u64 0),(.int .u64 0),(.int .u64 0),(.int .u64 0),(.int .u64 0),(.int .u64 0),(.int .u64 0),(.int .u64 0),(.int .u64 0),(.int .u64 0),(.int .u64 0),(.int .u64 0),(.int .u64 0),(.int .u64 0),(.int .u64 0),(.int .u64 0),(.int .u64 0),(.int .u64 0),(.int .u64 0),(.int .u64 0),(.int .u64 0),(.int .u64 0),(.int .u64 0),(.int .u64 0),(.int .u64 0),(.int .u64 0),(.int .u64 0),(.int .u64 0),(.int .u64 0),(.int .u64 0),(.int .u64 0),(.int .u64 0),(.int .u64 0),(.int .u64 0),(.int .u64 0),(.int .u64 0),(.int .u64 0),(.int .u64 0),(.int .u64 0),(.int .u64 0),(.int .u64 0),(.int .u64 0),(.int .u64 0),(.int .u64 0),(.int .u64 0),(.int .u64 0),(.int .u64 0),(.int .u64 0),(.int .u64 0),(.int .u64 0)],(.st [(0,1,false),(1,64,true),(65,1,false)])⟩) .e .e))) (.n (some ⟨1,[(.int .i64 0)],(.int .i64)⟩) (.n none .e (.n (some ⟨12,[(.int .u8 0),.nilFunc,.nilFunc,(.int .u8 0),.nilFunc,.nilFunc,(.int .u8 0),.nilFunc,.nilFunc,(.int .u8 0),.nilFunc,.nilFunc],(.ar 4 90 3)⟩) .e .e)) (.n none .e (.n (some ⟨1,[(.int .i64 0)],(.int .i64)⟩) .e .e))))) (.n (some ⟨4,[(.int .i64 0),(.int .i64 0),(.bool false),(.int .u8 0)],(.st [(0,1,false),(1,1,false),(2,1,false),(3,1,false)])⟩) (.n none (.n none (.n none (.n none .e (.n (some ⟨1,[.nilFunc],.fn⟩) .e .e)) (.n (some ⟨2,[(.int .i64 0),(.slice none 0 0)],(.st [(0,1,false),(1,1,false)])⟩) .e (.n (some ⟨1,[.nilFunc],.fn⟩) .e .e))) (.n (some ⟨2,[(.slice none 0 0),(.int .i64 0)],(.st [(0,1,false),(1,1,false)])⟩) .e (.n (some ⟨1,[.nilFunc],.fn⟩) .e (.n (some ⟨3,[(.string ⟨#[]⟩),(.string ⟨#[]⟩),(.string ⟨#[]⟩)],(.st [(0,1,false),(1,1,false),(2,1,false)])⟩) .e .e)))) (.n none (.n none .e (.n (some ⟨1,[.nilFunc],.fn⟩) .e .e)) (.n (some ⟨1,[.nilFunc],.fn⟩) .e (.n (some ⟨1,[(.slice none 0 0)],(.sl 71 2 32)⟩) .e .e)))) (.n none (.n none (.n none (.n none .e (.n (some ⟨3,[(.bool false),(.bool false),(.bool false)],(.st [(0,1,false),(1,1,false),(2,1,false)])⟩) .e .e)) .e) (.n (some ⟨1,[(.slice none 0 0)],(.sl 32 5 48)⟩) .e (.n (some ⟨1,[.nilFunc],.fn⟩) .e .e))) (.n none (.n none (.n none .e (.n (some ⟨1,[.nilFunc],.fn⟩) .e .e)) (.n none .e (.n (some ⟨1,[.nilFunc],.fn⟩) .e .e))) (.n none (.n none .e (.n (some ⟨10,[.nilFunc,.nilFunc,.nilFunc,.nilFunc,.nilFunc,.nilFunc,.nilFunc,.nilFunc,.nilFunc,.nilFunc],(.ar 10 190 1)⟩) .e .e)) .e)))))))
def tyE:TE:=tyT.get
theorem BF:∀t i,tyE t=some i→TOk Tryz.prog t i:=Tr.raw (tr:=tyT) (by kernel_rfl)
end Go.Proofs.YtpbichnnflabdaaGreatDoor
end
section
namespace Go.Km
open Go Go.RowKit Go.Vc
open Go.Sl hiding lk
def ltI(a b:Int):Bool:=match b-a with
 |.ofNat n=>!Nat.beq n 0
 |.negSucc _=>false
def leI(a b:Int):Bool:=match b-a with
 |.ofNat _=>true
 |.negSucc _=>false
def eqI(a b:Int):Bool:=match a,b with
 |.ofNat m,.ofNat n=>Nat.beq m n
 |.negSucc m,.negSucc n=>Nat.beq m n
 |_,_=>false
def Ke(n:Int):Bool:=match n with
 |.ofNat m=>Nat.ble m 9223372036854775807
 |.negSucc m=>Nat.ble m 9223372036854775807
theorem nS(a b:Int):ltI a b=decide (a<b):=by
 unfold ltI;rw[Bool.eq_iff_iff,decide_eq_true_iff]
 split
 ·rename_i n h;have:b-a=(n:Int):=h
  cases n with
  |zero=>exact⟨fun e=>(by cases e),fun _=>by omega⟩
  |succ n=>exact⟨fun _=>by omega,fun _=>rfl⟩
 ·rename_i n h;have:b-a=-((n:Int)+1):=by rw[h];exact Int.negSucc_eq n
  exact⟨fun e=>(by cases e),fun _=>by omega⟩
theorem dM(a b:Int):leI a b=decide (a≤b):=by
 unfold leI;rw[Bool.eq_iff_iff,decide_eq_true_iff]
 split
 ·rename_i n h;have:b-a=(n:Int):=h;exact⟨fun _=>by omega,fun _=>rfl⟩
 ·rename_i n h;have:b-a=-((n:Int)+1):=by rw[h];exact Int.negSucc_eq n
  exact⟨fun e=>(by cases e),fun _=>by omega⟩
theorem dO(a b:Int):eqI a b=decide (a=b):=by
 unfold eqI;rw[Bool.eq_iff_iff,decide_eq_true_iff]
 cases a<;>cases b<;>simp<;>omega
theorem yK(n:Int):Ke n=true↔I64 n:=by
 unfold Ke I64
 cases n with
 |ofNat m=>simp only[Nat.ble_eq];show _↔_≤((m:Nat):Int)∧((m:Nat):Int)≤_;omega
 |negSucc m=>simp only[Nat.ble_eq];rw[Int.negSucc_eq];omega
def Bp:List UInt8→List UInt8→Bool
 |[],[]=>true
 |a::l,b::m=>Nat.beq a.toNat b.toNat&&Bp l m
 |_,_=>false
theorem zF:∀{l m:List UInt8},Bp l m=true↔l=m
 |[],[]=>by simp[Bp]
 |a::l,[]=>by simp[Bp]
 |[],b::m=>by simp[Bp]
 |a::l,b::m=>by
  simp only[Bp,Bool.and_eq_true,zF,List.cons.injEq,Nat.beq_eq]
  constructor
  ·rintro⟨h,h'⟩;exact⟨UInt8.toNat_inj.1 h,h'⟩
  ·rintro⟨h,h'⟩;exact⟨by rw[h],h'⟩
def eqS(a b:ByteArray):Bool:=Bp a.data.toList b.data.toList
theorem sS(a b:ByteArray):eqS a b=decide (a=b):=by
 unfold eqS;rw[Bool.eq_iff_iff,decide_eq_true_iff,zF]
 constructor
 ·intro h;exact ByteArray.ext (Array.ext' h)
 ·rintro rfl;rfl
def szS(a:ByteArray):Nat:=a.data.toList.length
theorem jW(a:ByteArray):szS a=a.size:=rfl
def uU(a b:ByteArray):ByteArray:=⟨(a.data.toList++b.data.toList).toArray⟩
theorem IY(a b:ByteArray):uU a b=a++b:=(KU a b).symm
def ko(a:ByteArray)(l h:Nat):ByteArray:=⟨((a.data.toList.take h).drop l).toArray⟩
theorem xu(a:ByteArray)(l h:Nat):ko a l h=a.extract l h:=by
 apply ByteArray.ext;apply Array.ext';rw[ByteArray.data_extract,Array.toList_extract];unfold ko;simp[List.extract,List.drop_take]
def wx:List Int→List Int→Bool
 |[],[]=>true
 |a::l,b::m=>eqI a b&&wx l m
 |_,_=>false
theorem oJ:∀(l m:List Int),wx l m=decide (l=m)
 |[],[]=>rfl
 |a::l,[]=>by simp[wx]
 |[],b::m=>by simp[wx]
 |a::l,b::m=>by
  simp only[wx,oJ l m,dO,List.cons.injEq];rw[Bool.eq_iff_iff];simp
section
variable {R:Type}{α:Type} (al:Al R)
def GO(d:D)(k:Bool→R):R:=match d with
 |.fr (.vl (.bool b))=>k b
 |_=>al.bot
def arG(k:IntKind)(n:Int)(K:D→R):R:=match k with
 |.i64=>al.ak (Ke n) (K (.fr (.vl (.int .i64 n))))
 |k=>al.iS (k.wrap n) fun m=>K (.fr (.vl (.int k m)))
def kb(a b:IntKind):Bool:=match a,b with
 |.i8,.i8=>true | .i16,.i16=>true | .i32,.i32=>true | .i64,.i64=>true
 |.u8,.u8=>true | .u16,.u16=>true | .u32,.u32=>true | .u64,.u64=>true
 |_,_=>false
theorem FZ{a b:IntKind}:kb a b=true↔a=b:=by cases a<;>cases b<;>simp[kb]
def KJ(op:BinOp)(ka:IntKind)(a:Int)(kb_:IntKind)(b:Int)(K:D→R):R:=match op with
 |.shl=>al.ak (leI 0 b) (al.iS (ka.wrap (a*2^(min b.toNat ka.bits))) fun m=>K (.fr (.vl (.int ka m))))
 |.shr=>al.ak (leI 0 b) (al.iS (a.fdiv (2^(min b.toNat ka.bits))) fun m=>K (.fr (.vl (.int ka m))))
 |op=>al.ak (kb ka kb_) (match op with
  |.add=>arG al ka (a+b) K
  |.sub=>arG al ka (a-b) K
  |.mul=>arG al ka (a*b) K
  |.lss=>K (.fr (.vl (.bool (ltI a b))))
  |.leq=>K (.fr (.vl (.bool (leI a b))))
  |.gtr=>K (.fr (.vl (.bool (ltI b a))))
  |.geq=>K (.fr (.vl (.bool (leI b a))))
  |.eql=>K (.fr (.vl (.bool (eqI a b))))
  |.neq=>K (.fr (.vl (.bool (!eqI a b))))
  |.quo=>al.ak (!eqI b 0) (al.iS (ka.wrap (a.tdiv b)) fun m=>K (.fr (.vl (.int ka m))))
  |.rem=>al.ak (!eqI b 0) (al.iS (a.tmod b) fun m=>K (.fr (.vl (.int ka m))))
  |op=>match yZ op ka a b with|some n=>al.iS n fun m=>K (.fr (.vl (.int ka m)))|none=>al.bot)
def Ms(op:BinOp)(a b:ByteArray)(K:D→R):R:=match op with
 |.add=>al.ak (Nat.ble (szS a+szS b) 9223372036854775807) (K (.fr (.vl (.string (uU a b)))))
 |.eql=>K (.fr (.vl (.bool (eqS a b))))
 |.neq=>K (.fr (.vl (.bool (!eqS a b))))
 |_=>al.bot
def L7(op:BinOp)(x y:D)(K:D→R):R:=match x,y with
 |.fr (.vl (.int ka a)),.fr (.vl (.int kb b))=>KJ al op ka a kb b K
 |.fr (.vl (.string a)),.fr (.vl (.string b))=>Ms al op a b K
 |_,_=>al.bot
def qt(a b:Bool):Bool:=match a with
 |true=>b
 |false=>!b
def K2(op:BinOp)(x y:D)(K:D→R):R:=match x,y with
 |.fr (.vl (.bool a)),.fr (.vl (.bool b))=>(match op with
  |.eql=>K (.fr (.vl (.bool (qt a b))))
  |.neq=>K (.fr (.vl (.bool (!qt a b))))
  |_=>al.bot)
 |_,_=>al.bot
def KY(k:IntKind)(op:BinOp)(x y:D)(K:D→R):R:=match ints k x.cells,ints k y.cells with
 |some l,some m=>al.ak (jF x&&jF y) (match op with
  |.eql=>K (.fr (.vl (.bool (wx l m))))
  |.neq=>K (.fr (.vl (.bool (!wx l m))))
  |_=>al.bot)
 |_,_=>al.bot
def unG(op:UnOp)(x:D)(K:D→R):R:=match op,x with
 |.not,.fr (.vl (.bool b))=>K (.fr (.vl (.bool (!b))))
 |.neg,.fr (.vl (.int k a))=>arG al k (0-a) K
 |_,_=>al.bot
variable (E:TE) (η:Env) (t:Nat)
def H9(t':Nat)(x:D)(k:Kr R):R:=match E t' with
 |none=>al.bot
 |some i=>match x with
  |.ptr b v o=>(match η b with
   |some (.va v' _ cs)=>al.ak (Nat.beq v v') (match i.k.agg with
    |true=>al.ak (Nat.ble (o+i.sz) cs.length) (k (.ag ((cs.drop o).take i.sz)) [b] [])
    |false=>al.bm cs o fun d=>k d [b] [])
   |_=>al.bot)
  |.rp b v sz j o=>(match η b with
   |some (.ro v' _ sz' rows)=>al.ak (Nat.beq v v'&&Nat.beq sz sz') (al.bm rows j fun r=>match i.k.agg with
    |true=>al.ak (Nat.ble (o+i.sz) r.length) (k (.ag (((r.drop o).take i.sz).map .fr)) [b] [])
    |false=>al.bm r o fun d=>k (.fr d) [b] [])
   |_=>al.bot)
  |.fr (.pt sz rows j o)=>al.bm rows j fun r=>(match i.k.agg with
   |true=>al.ak (Nat.ble (o+i.sz) r.length) (k (.ag (((r.drop o).take i.sz).map .fr)) [] [])
   |false=>al.bm r o fun d=>k (.fr d) [] [])
  |_=>al.bot
def AI(t':Nat)(x y:D)(k:Kr R):R:=match E t' with
 |none=>al.bot
 |some i=>match x with
  |.ptr b v o=>(match η b with
   |some (.va v' bt cs)=>al.ak (Nat.beq v v'&&Nat.beq y.cells.length i.sz&&y.cells.all D.one&&Nat.ble (o+i.sz) cs.length&&Nat.blt 0 i.sz) (k Un [b] [(b,.va v bt (setAt cs o y.cells))])
   |_=>al.bot)
  |.rp b v sz j o=>(match η b with
   |some (.ro v' e sz' rows)=>al.ak (Nat.beq v v'&&Nat.beq sz sz'&&Nat.beq y.cells.length i.sz) (al.bm rows j fun r=>match cB (D.toF η 4) y.cells with
    |some (fs,is)=>al.ak (fs.all F.one&&Nat.ble (o+i.sz) sz&&Nat.blt 0 i.sz && !is.elem b) (k Un (b::is) ((b,.ro v e sz (rows.set j (setAt r o fs)))::aU η is))
    |none=>al.bot)
   |_=>al.bot)
  |_=>al.bot
def nw(t':Nat)(x:D)(j:Nat)(k:Kr R):R:=match E t' with
 |some ⟨_,_,.st fs⟩=>(match fs[j]? with
  |some (o',s',_)=>al.ak (Nat.blt 0 s') (match x with
   |.ptr b v o=>k (.ptr b v (o+o')) [] []
   |.rp b v sz i o=>k (.rp b v sz i (o+o')) [] []
   |.fr (.pt sz rows i o)=>k (.fr (.pt sz rows i (o+o'))) [] []
   |_=>al.bot)
  |none=>al.bot)
 |_=>al.bot
def BY(t':Nat)(x:D)(j:Nat)(k:Kr R):R:=match E t' with
 |some ⟨n,_,.st fs⟩=>(match fs[j]? with
  |some (o',s',g)=>(match x with
   |.ag cs=>al.ak (Nat.beq cs.length n) (match g with
    |true=>k (.ag ((cs.drop o').take s')) [] []
    |false=>al.bm cs o' fun d=>k d [] [])
   |.fr (.ag cs)=>al.ak (Nat.beq cs.length n) (match g with
    |true=>k (.ag (((cs.drop o').take s').map .fr)) [] []
    |false=>al.bm cs o' fun d=>k (.fr d) [] [])
   |_=>al.bot)
  |none=>al.bot)
 |_=>al.bot
def m3(t':Nat)(x y:D)(k:Kr R):R:=match y with
 |.fr (.vl (.int _ n))=>(match E t' with
  |some ⟨_,_,.sl e sz _⟩=>(match x with
   |.own b v=>(match η b with
    |some (.ro v' _ sz' rows)=>al.ak (Nat.beq v v'&&Nat.beq sz sz') (al.cF n fun i=>al.ak (Nat.blt i rows.length) (k (.rp b v sz i 0) [b] []))
    |_=>al.bot)
   |.fr (.sl rows)=>al.cF n fun i=>al.bm rows i fun r=>al.ak (Nat.beq r.length sz) (k (.fr (.pt sz rows i 0)) [] [])
   |_=>al.bot)
  |some ⟨_,_,.ar len e sz⟩=>(match x with
   |.ptr b v o=>al.cF n fun i=>al.ak (Nat.blt i len) (k (.ptr b v (o+i*sz)) [] [])
   |.rp b v sz' j o=>al.cF n fun i=>al.ak (Nat.blt i len) (k (.rp b v sz' j (o+i*sz)) [] [])
   |.fr (.pt sz' rows j o)=>al.cF n fun i=>al.ak (Nat.blt i len) (k (.fr (.pt sz' rows j (o+i*sz))) [] [])
   |_=>al.bot)
  |_=>al.bot)
 |_=>al.bot
def BK(t':Nat)(x y:D)(k:Kr R):R:=match y with
 |.fr (.vl (.int _ n))=>(match E t',x with
  |some ⟨_,_,.str⟩,.fr (.vl (.string s))=>al.cF n fun i=>al.bm s.data.toList i fun u=>k (.fr (.vl (.int .u8 (u.toNat:Int)))) [] []
  |_,_=>al.bot)
 |_=>al.bot
def pP(d:Nat)(x:Option D)(K:Nat→R):R:=match x with
 |none=>K d
 |some (.fr (.vl (.int _ n)))=>al.cF n K
 |_=>al.bot
def kV(sz:Nat)(rows:List (List F)):Bool:=rows.all fun r=>Nat.beq r.length sz
def An(t':Nat)(x:D)(lo hi:Option (Option D))(mx:Bool)(k:Kr R):R:=match mx with
 |true=>al.bot
 |false=>match lo,hi with
  |some lo,some hi=>(match E t',x with
   |some ⟨_,_,.str⟩,.fr (.vl (.string s))=>pP al 0 lo fun l=>pP al (szS s) hi fun h=>al.ak (Nat.ble l h&&Nat.ble h (szS s)) (k (.fr (.vl (.string (ko s l h)))) [] [])
   |some ⟨_,_,.sl e sz _⟩,.fr (.sl rows)=>pP al 0 lo fun l=>pP al rows.length hi fun h=>al.ak (Nat.ble l h&&Nat.ble h rows.length&&kV sz rows) (k (.fr (.sl ((rows.take h).drop l))) [] [])
   |_,_=>al.bot)
  |_,_=>al.bot
def sF(x:D)(j:Nat)(k:Kr R):R:=match x with
 |.tp ds=>al.bm ds j fun d=>k d [] []
 |_=>al.bot
def AA(t':Nat)(ps:List (Nat×Option D))(k:Kr R):R:=match E t' with
 |some ⟨_,z,.st fs⟩=>(match oY fs (z.map fun v=>.fr (.vl v)) ps with
  |some cs=>k (.ag cs) [] []
  |none=>al.bot)
 |some ⟨_,z::zs,.ar len _ sz⟩=>(match oY ((List.range len).map fun j=>(j*sz,sz,false)) ((z::zs).map fun v=>.fr (.vl v)) ps with
  |some cs=>k (.ag cs) [] []
  |none=>al.bot)
 |_=>al.bot
def Li(t':Nat)(len:Nat)(ps:List (Nat×Option D))(k:Kr R):R:=match E t' with
 |some ⟨_,_,.sl e sz _⟩=>(match jX η sz 0 ps with
  |some (rows,is)=>al.ak (Nat.beq len ps.length&&Nat.ble (len*sz) 16777216 && !(is.elem t)) (k (.own t (nv η t)) (t::is) ((t,.ro (nv η t) e sz rows)::aU η is))
  |none=>al.bot)
 |_=>al.bot
def E8(t':Nat)(l c:D)(k:Kr R):R:=match E t',l,c with
 |some ⟨_,_,.sl e sz by_⟩,.fr (.vl (.int _ n)),.fr (.vl (.int _ m))=>(match E e with
  |some i=>al.ak (Nat.beq i.z.length sz) (al.cF n fun j=>al.cF m fun j'=>al.ak ((Nat.beq j j'||Nat.beq j 0)&&Nat.ble (by_*j') 281474976710656&&Nat.ble j' maxLen)
    (k (.own t (nv η t)) [t] [(t,.ro (nv η t) e sz (List.replicate j (i.z.map fun v=>F.nz (.vl v))))]))
  |none=>al.bot)
 |_,_,_=>al.bot
def Ll(t':Nat)(x:D)(k:Kr R):R:=match E t' with
 |some ⟨_,_,.str⟩=>(match x with
  |.fr (.vl (.string s))=>k (.fr (.vl (.int .i64 (szS s:Int)))) [] []
  |_=>al.bot)
 |some ⟨_,_,.sl _ _ _⟩=>(match x with
  |.fr (.sl rows)=>k (.fr (.vl (.int .i64 (rows.length:Int)))) [] []
  |.fr (.vl (.slice none 0 0))=>k (.fr (.vl (.int .i64 0))) [] []
  |.own b v=>(match η b with
   |some (.ro v' _ _ rows)=>al.ak (Nat.beq v v') (k (.fr (.vl (.int .i64 (rows.length:Int)))) [b] [])
   |_=>al.bot)
  |_=>al.bot)
 |_=>al.bot
def wY(t':Nat)(x y:D)(k:Kr R):R:=match E t',fI η y with
 |some ⟨_,_,.sl e sz by_⟩,some (news,rd)=>(match x with
  |.own b v=>(match η b with
   |some (.ro v' e' sz' rows)=>al.ak (Nat.beq v v'&&Nat.beq e e'&&Nat.beq sz sz'&&kV sz news&&Nat.ble (rows.length+news.length) maxLen&&Nat.ble ((rows.length+news.length)*by_) 140737488355328)
     (k (.own b (v+1)) (b::rd) [(b,.ro (v+1) e sz (rows++news))])
   |_=>al.bot)
  |.fr (.vl (.slice none 0 0))=>al.ak (kV sz news&&Nat.ble news.length maxLen&&Nat.ble (news.length*by_) 140737488355328) (k (.own t (nv η t)) (t::rd) [(t,.ro (nv η t) e sz news)])
  |_=>al.bot)
 |_,_=>al.bot
def bytesOf:List (List F)→Option (List UInt8)
 |[]=>some []
 |r::l=>match r with
  |[.vl (.int .u8 (.ofNat n))]=>bif Nat.blt n 256 then(match bytesOf l with
   |some m=>some (UInt8.ofNat n::m)
   |none=>none)else none
  |_=>none
def GS(t1 t2:Nat)(x:D)(k:Kr R):R:=match E t1,E t2 with
 |some ⟨_,_,.int k1⟩,some ⟨_,_,.int k2⟩=>(match x with
  |.fr (.vl (.int k' n))=>al.ak (kb k' k1) (al.iS (k2.wrap n) fun m=>k (.fr (.vl (.int k2 m))) [] [])
  |_=>al.bot)
 |some ⟨_,_,.sl e sz _⟩,some ⟨_,_,.str⟩=>(match E e with
  |some ⟨_,_,.int .u8⟩=>(match fI η x with
   |some (rows,rd)=>(match bytesOf rows with
    |some bs=>al.ak (Nat.beq sz 1) (k (.fr (.vl (.string ⟨bs.toArray⟩))) rd [])
    |none=>al.bot)
   |none=>al.bot)
  |_=>al.bot)
 |_,_=>al.bot
abbrev CR(R:Type):=Nat→Env→FuncId→List D→Kr R→R
def Hv(G:CR R)(ρ:Operand→Option D)(c:Call)(k:Kr R):R:=match c.callee with
 |.builtin .len=>(match c.args.toList,c.argTypes.toList with
  |[x],[t']=>(match ρ x with|some d=>Ll al E η t' d k|none=>al.bot)
  |_,_=>al.bot)
 |.builtin .append=>(match c.args.toList,c.argTypes.toList with
  |[x,y],[t',t'']=>(match ρ x,ρ y with|some d,some d'=>al.ak (Nat.beq t' t'') (wY al E η t t' d d' k)|_,_=>al.bot)
  |_,_=>al.bot)
 |.builtin .max=>(match c.args.toList with
  |[x,y]=>(match ρ x,ρ y with
   |some (.fr (.vl (.int .i64 a))),some (.fr (.vl (.int .i64 b)))=>k (.fr (.vl (.int .i64 (bif leI a b then b else a)))) [] []
   |_,_=>al.bot)
  |_=>al.bot)
 |.builtin .min=>(match c.args.toList with
  |[x,y]=>(match ρ x,ρ y with
   |some (.fr (.vl (.int .i64 a))),some (.fr (.vl (.int .i64 b)))=>k (.fr (.vl (.int .i64 (bif leI a b then a else b)))) [] []
   |_,_=>al.bot)
  |_=>al.bot)
 |.value f=>(match ρ f,jb (c.args.toList.map ρ)with
  |some (.cl f cs),some l=>G t η f (l++cs) k
  |some (.fr (.cl f cs)),some l=>G t η f (l++cs.map F.toD) k
  |_,_=>al.bot)
 |_=>al.bot
def K7(G:CR R)(ρ:Operand→Option D)(op:Op)(k:Kr R):R:=match op with
 |.move x=>(match ρ x with|some d=>k d [] []|none=>al.bot)
 |.assign x=>(match ρ x with|some d=>k d [] []|none=>al.bot)
 |.pick c a b=>(match ρ c,ρ a,ρ b with|some (.fr (.vl (.bool q))),some x,some y=>al.ni q (k x [] []) (k y [] [])|_,_,_=>al.bot)
 |.alloc t'=>(match E t' with
  |some i=>al.ak (Nat.blt 0 i.z.length) (k (.ptr t (nv η t) 0) [t] [(t,.va (nv η t) t' (i.z.map fun v=>.fr (.vl v)))])
  |none=>al.bot)
 |.box t' x=>(match ρ x with|some d=>al.ak (d.cells.all D.one) (k (.ptr t (nv η t) 0) [t] [(t,.va (nv η t) t' d.cells)])|none=>al.bot)
 |.build t' ps=>AA al E t' (ps.toList.map fun p=>(p.1,ρ p.2)) k
 |.buildSlice t' n ps=>Li al E η t t' n (ps.toList.map fun p=>(p.1,ρ p.2)) k
 |.load t' x=>(match ρ x with|some d=>H9 al E η t' d k|none=>al.bot)
 |.store t' x y=>(match ρ x,ρ y with|some d,some d'=>AI al E η t' d d' k|_,_=>al.bot)
 |.nilCheck x=>(match ρ x with
  |some (.ptr b v o)=>k (.ptr b v o) [] []
  |some (.rp b v sz i o)=>k (.rp b v sz i o) [] []
  |some (.fr (.pt sz rows i o))=>k (.fr (.pt sz rows i o)) [] []
  |some (.cl f cs)=>k (.cl f cs) [] []
  |some (.fr (.cl f cs))=>k (.fr (.cl f cs)) [] []
  |_=>al.bot)
 |.binOp op ty x y _=>(match ρ x,ρ y with
  |some d,some d'=>(match E ty with
   |some ⟨_,_,.bool⟩=>K2 al op d d' fun r=>k r [] []
   |some ⟨_,_,.ar len e sz⟩=>(match E e with
    |some ⟨_,_,.int ik⟩=>al.ak (Nat.beq sz 1&&Nat.beq d.cells.length len&&Nat.beq d'.cells.length len) (KY al ik op d d' fun r=>k r [] [])
    |_=>al.bot)
   |_=>L7 al op d d' fun r=>k r [] [])
  |_,_=>al.bot)
 |.unOp op _ x=>(match ρ x with|some d=>unG al op d fun r=>k r [] []|none=>al.bot)
 |.convert t1 t2 x=>(match ρ x with|some d=>GS al E η t1 t2 d k|none=>al.bot)
 |.makeFunc (.func f) fst cap=>(match fst.toList,jb (cap.toList.map ρ)with|[],some l=>k (.cl f l) [] []|_,_=>al.bot)
 |.makeSlice t' l c=>(match ρ l,ρ c with|some d,some d'=>E8 al E η t t' d d' k|_,_=>al.bot)
 |.slice t' x lo hi mx=>(match ρ x with
  |some d=>An al E t' d (dW ρ lo) (dW ρ hi) mx.isSome k
  |none=>al.bot)
 |.fieldAddr t' x j=>(match ρ x with|some d=>nw al E t' d j k|none=>al.bot)
 |.field t' x j=>(match ρ x with|some d=>BY al E t' d j k|none=>al.bot)
 |.indexAddr t' x y=>(match ρ x,ρ y with|some d,some d'=>m3 al E η t' d d' k|_,_=>al.bot)
 |.index t' x y=>(match ρ x,ρ y with|some d,some d'=>BK al E t' d d' k|_,_=>al.bot)
 |.extract x j=>(match ρ x with|some d=>sF al d j k|none=>al.bot)
 |.call c=>Hv al E η t G ρ c k
 |_=>al.bot
def opG(Q:Nat→Bool)(G:CR R)(ρ:Operand→Option D)(op:Op)(k:Kr R):R:=bif Nl Q E ρ op then mX al Q E η t ρ op k else K7 al E η t G ρ op k
end
def M8(b v:Nat):D→Bool
 |.fr (.vl (.pointer none))=>true
 |.ptr b' v' o=>Nat.beq b b'&&Nat.beq v v'&&Nat.beq o 0
 |_=>false
def Hq(t:Nat)(η:Env)(b:Nat):D→Option (List (List F)×Nat×Nat×List Nat)
 |.fr (.vl (.slice none 0 0))=>some ([],t,nv η t,[t])
 |.own b2 v=>match η b2 with
  |some (.ro v' _ sz rows)=>bif Nat.beq v v'&&Nat.beq sz 1 && !Nat.beq b b2 then some (rows,b2,v+1,[b2])else none
  |_=>none
 |_=>none
def rowsOf(l:List UInt8):List (List F):=l.map fun u=>[.vl (.int .u8 (u.toNat:Int))]
def I8(bt u8:Nat)(kind:Nat)(t:Nat)(η:Env)(l:List D):Ot:=match l with
 |.ptr b v 0::l=>(match η b with
  |some (.va v' ty [ad,sl])=>vh (Nat.beq v v'&&Nat.beq ty bt&&M8 b v ad) (match Hq t η b sl with
   |some (rows,b2,v2,rd)=>(match bytesOf rows with
    |some bs=>
     let put (news:List UInt8) (r:D):Ot:=vh (Nat.ble (bs.length+news.length) 100000000) (some (r,b::rd,[(b2,.ro v2 u8 1 (rows++rowsOf news)),(b,.va v bt [.ptr b v 0,.own b2 v2])]))
     (match kind,l with
     |1,[.fr (.vl (.int .u8 (.ofNat n)))]=>vh (Nat.blt n 256) (put [UInt8.ofNat n] (.fr (.vl .nilIface)))
     |2,[.fr (.vl (.string s))]=>put s.data.toList (.tp [.fr (.vl (.int .i64 (szS s:Int))),.fr (.vl .nilIface)])
     |3,[]=>some (.fr (.vl (.string ⟨bs.toArray⟩)),b::rd,(b,.gone v)::(match sl with | .own b2 v2=>[(b2,.gone v2)]|_=>[]))
     |_,_=>none)
    |none=>none)
   |none=>none)
  |_=>none)
 |_=>none
def bdX(E:TE)(bt u8:Nat)(kind:Nat)(t:Nat)(η:Env)(l:List D):Ot:=match kind,l with
 |4,x::_=>(match pZ η x with
  |some ([],rd)=>some (.fx [],rd,[])
  |some (rows,rd)=>(match E bt with
   |some ⟨_,_,.sl e sz by_⟩=>vh (kV sz rows&&Nat.ble rows.length maxLen&&Nat.ble (rows.length*by_) 140737488355328) (some (.own t (nv η t),t::rd,[(t,.ro (nv η t) e sz rows)]))
   |_=>none)
  |none=>none)
 |kind,l=>I8 bt u8 kind t η l
end Go.Km
end
section
namespace Go.Vc
open Go Go.RowKit Go.Sl
def CT{R:Type}(T:R→Prop)(k:Kr R)(x:R)(y:Ot):Prop:=T x→∃d rd e,y=some (d,rd,e)∧T (k d rd e)
section
variable {R:Type}{al:Al R}{T:R→Prop} (hb:uR al T) {k:Kr R}
theorem CT.ret{d:D}{rd:List Nat}{e:List (Nat×B)}:CT T k (k d rd e) (some (d,rd,e)):=fun h=>⟨d,rd,e,rfl,h⟩
include hb
theorem CT.bot{y:Ot}:CT T k al.bot y:=fun h=>(hb.bot h).elim
theorem CT.ak{c:Bool}{x:R}{y:Ot}(h:CT T k x y):CT T k (al.ak c x) ((alO _).ak c y):=fun g=>by
 obtain⟨rfl,g2⟩:=hb.ak g;exact h g2
theorem CT.cF{n:Int}{x:Nat→R}{y:Nat→Ot}(h:∀i,CT T k (x i) (y i)):CT T k (al.cF n x) ((alO _).cF n y):=fun g=>by
 obtain⟨i,rfl,g2⟩:=hb.cF g;exact h i g2
theorem CT.bm{α:Type}{xs:List α}{i:Nat}{x:α→R}{y:α→Ot}(h:∀i,CT T k (x i) (y i)):CT T k (al.bm xs i x) ((alO _).bm xs i y):=fun g=>by
 obtain⟨a,e,g⟩:=hb.bm g;simp only[alO,e];exact h a g
variable {Q:Nat→Bool}{E:TE}{η:Env}{t:Nat}{ρ:Operand→Option D}
theorem cI{d:D}{x:Nat→R}{y:Nat→Ot}(h:∀i,CT T k (x i) (y i)):CT T k (fp al d x) (fp (alO _) d y):=by
 unfold fp
 split
 ·exact CT.cF hb h
 ·exact CT.bot hb
theorem FN{n:Nat}{d:Option (Option D)}{x:Nat→R}{y:Nat→Ot}(h:∀i,CT T k (x i) (y i)):CT T k (uW al n d x) (uW (alO _) n d y):=by
 unfold uW
 split
 ·exact h _
 ·exact cI hb h
 ·exact CT.bot hb
theorem gg{n:Nat}{lo hi mx:Option (Option D)}{x:Nat→Nat→Bool→R}{y:Nat→Nat→Bool→Ot}(h:∀i j b,CT T k (x i j b) (y i j b)):CT T k (rP al n lo hi mx x) (rP (alO _) n lo hi mx y):=by
 unfold rP;refine FN hb fun i=>FN hb fun j=>CT.ak hb ?_
 split
 ·exact h _ _ _
 ·split
  ·exact CT.bot hb
  ·exact cI hb fun m=>CT.ak hb (h _ _ _)
 ·exact CT.bot hb
theorem Ei{t':Nat}{x:D}{lo hi mx:Option (Option D)}:CT T k (gx al E η t' x lo hi mx k) (gx (alO _) E η t' x lo hi mx fun d rd e=>some (d,rd,e)):=by
 unfold gx
 repeat' (first|exact CT.ret|exact CT.bot hb|apply CT.ak hb|(apply CT.bm hb;intro _)|(apply cI hb;intro _)|(apply gg hb;intro _ _ _)|split)
theorem A5{t':Nat}{x y:D}:CT T k (eQ al E η t t' x y k) (eQ (alO _) E η t t' x y fun d rd e=>some (d,rd,e)):=by
 unfold eQ
 repeat' (first|exact CT.ret|exact CT.bot hb|apply CT.ak hb|(apply CT.bm hb;intro _)|(apply cI hb;intro _)|(apply gg hb;intro _ _ _)|split)
theorem Eg{t':Nat}{x:D}{s:ByteArray}:CT T k (gD al E η t t' x s k) (gD (alO _) E η t t' x s fun d rd e=>some (d,rd,e)):=by
 unfold gD
 repeat' (first|exact CT.ret|exact CT.bot hb|apply CT.ak hb|(apply CT.bm hb;intro _)|(apply cI hb;intro _)|(apply gg hb;intro _ _ _)|split)
theorem IG{t':Nat}{x:D}:CT T k (oU al E η t' x k) (oU (alO _) E η t' x fun d rd e=>some (d,rd,e)):=by
 unfold oU
 repeat' (first|exact CT.ret|exact CT.bot hb|apply CT.ak hb|(apply CT.bm hb;intro _)|(apply cI hb;intro _)|(apply gg hb;intro _ _ _)|split)
theorem FB{t':Nat}{x y:D}:CT T k (jQ al E η t' x y k) (jQ (alO _) E η t' x y fun d rd e=>some (d,rd,e)):=by
 unfold jQ
 repeat' (first|exact CT.ret|exact CT.bot hb|apply CT.ak hb|(apply CT.bm hb;intro _)|(apply cI hb;intro _)|(apply gg hb;intro _ _ _)|split)
theorem uM{t':Nat}{x y:D}:CT T k (cJ al E η t' x y k) (cJ (alO _) E η t' x y fun d rd e=>some (d,rd,e)):=by
 unfold cJ
 repeat' (first|exact CT.ret|exact CT.bot hb|apply CT.ak hb|(apply CT.bm hb;intro _)|(apply cI hb;intro _)|(apply gg hb;intro _ _ _)|split)
theorem DD{t':Nat}{x y:D}:CT T k (lZ al E t' x y k) (lZ (alO _) E t' x y fun d rd e=>some (d,rd,e)):=by
 unfold lZ
 repeat' (first|exact CT.ret|exact CT.bot hb|apply CT.ak hb|(apply CT.bm hb;intro _)|(apply cI hb;intro _)|(apply gg hb;intro _ _ _)|split)
theorem Ax{t':Nat}{x y:D}{c:Bool}:CT T k (eY al E η t' x y c k) (eY (alO _) E η t' x y c fun d rd e=>some (d,rd,e)):=by
 unfold eY;dsimp only
 repeat' (first|exact CT.ret|exact CT.bot hb|apply CT.ak hb|(apply CT.bm hb;intro _)|(apply cI hb;intro _)|(apply gg hb;intro _ _ _)|split)
theorem Bw{t':Nat}{x y z:D}:CT T k (eT al E η t' x y z k) (eT (alO _) E η t' x y z fun d rd e=>some (d,rd,e)):=by
 unfold eT
 repeat' (first|exact CT.ret|exact CT.bot hb|apply CT.ak hb|(apply CT.bm hb;intro _)|(apply cI hb;intro _)|(apply gg hb;intro _ _ _)|split)
theorem oM{op:BinOp}{r:Option Bool}:CT T k (mL al op r k) (mL (alO _) op r fun d rd e=>some (d,rd,e)):=by
 unfold mL
 repeat' (first|exact CT.ret|exact CT.bot hb|apply CT.ak hb|(apply CT.bm hb;intro _)|(apply cI hb;intro _)|(apply gg hb;intro _ _ _)|split)
theorem JL{op:BinOp}{ty:Nat}{x y:D}:CT T k (wm al Q E op ty x y k) (wm (alO _) Q E op ty x y fun d rd e=>some (d,rd,e)):=by
 unfold wm
 split
 ·exact oM hb
 ·exact oM hb
 ·split
  ·exact CT.ak hb (oM hb)
  ·exact oM hb
  ·exact CT.bot hb
 ·exact CT.ak hb (oM hb)
 ·exact CT.bot hb
theorem IP{op:Op}:CT T k (mX al Q E η t ρ op k) (opX Q E η t ρ op):=by
 unfold opX mX
 cases op
 all_goals try exact CT.bot hb
 case slice=>dsimp only;split;exact Ei hb;exact CT.bot hb
 case indexAddr=>dsimp only;split;exact uM hb;exact CT.bot hb
 case index=>dsimp only;split;exact DD hb;exact CT.bot hb
 case makeMap=>dsimp only;repeat' (first|exact CT.ret|exact CT.bot hb|apply CT.ak hb|(apply CT.bm hb;intro _)|(apply cI hb;intro _)|(apply gg hb;intro _ _ _)|split)
 case lookup=>dsimp only;split;exact Ax hb;exact CT.bot hb
 case mapUpdate=>dsimp only;split;exact Bw hb;exact CT.bot hb
 case binOp=>dsimp only;split;exact JL hb;exact CT.bot hb
 case makeFunc f fst cap=>
  cases f with
  |func f=>dsimp only;repeat' (first|exact CT.ret|exact CT.bot hb|apply CT.ak hb|(apply CT.bm hb;intro _)|(apply cI hb;intro _)|(apply gg hb;intro _ _ _)|split)
  |_=>exact CT.bot hb
 case call=>
  dsimp only
  split
  ·split
   ·split
    ·exact IG hb
    ·exact CT.bot hb
   ·exact CT.bot hb
  ·split
   ·split
    ·split
     ·exact CT.ak hb (Eg hb)
     ·exact CT.ak hb (A5 hb)
    ·exact CT.bot hb
   ·exact CT.bot hb
  ·split
   ·split
    ·exact CT.ak hb (FB hb)
    ·exact CT.bot hb
   ·exact CT.bot hb
  ·exact CT.bot hb
theorem L2{op:Op}(h:T (mX al Q E η t ρ op k)):∃d rd e,opX Q E η t ρ op=some (d,rd,e)∧T (k d rd e):=IP hb h
end
end Go.Vc
end
section
namespace Go.Km
open Go Go.RowKit Go.Vc
open Go.Sl hiding lk
section
variable {R:Type}{α:Type}{al:Al R}{T:R→Prop} (hb:uR al T)
include hb
theorem aB{c:Bool}{k:R}(h:T (al.ak c k)):c=true∧T k:=hb.ak h
theorem gO{xs:List α}{i:Nat}{k:α→R}(h:T (al.bm xs i k)):∃x,xs[i]?=some x∧T (k x):=hb.bm h
theorem jE{n:Int}{k:Nat→R}(h:T (al.cF n k)):∃i:Nat,n=(i:Int)∧T (k i):=hb.cF h
theorem CQ{c:Bool}{a b:R}(h:T (al.ni c a b)):(c=true→T a)∧(c=false→T b):=hb.ni h
theorem CZ{k:IntKind}{n:Int}{K:D→R}(h:T (arG al k n K)):rK k n (fun d=>T (K d)):=by
 unfold arG at h;unfold rK
 split at h
 ·obtain⟨h1,h2⟩:=aB hb h;exact⟨(yK _).1 h1,h2⟩
 ·rename_i hk
  split
  ·exact absurd rfl hk
  ·exact⟨_,rfl,hb.iS h⟩
theorem Mo{op:BinOp}{ka kb_:IntKind}{a b:Int}{K:D→R}(h:T (KJ al op ka a kb_ b K)):qY op ka a kb_ b (fun d=>T (K d)):=by
 have e:∀{c:R},T (al.ak (kb ka kb_) c)→ka=kb_∧T c:=fun h=>let⟨h1,h2⟩:=aB hb h;⟨FZ.1 h1,h2⟩
 cases op<;>simp only[KJ]at h<;>simp only[qY]
 case shl=>obtain⟨h1,h2⟩:=aB hb h;exact⟨by rw[dM]at h1;simpa using h1,hb.iS h2⟩
 case shr=>obtain⟨h1,h2⟩:=aB hb h;exact⟨by rw[dM]at h1;simpa using h1,hb.iS h2⟩
 all_goals
  replace h:=e h
  clear e;obtain⟨e1,h⟩:=h;subst e1;simp only[decide_true,cond_true]
 case add=>exact CZ hb h
 case sub=>exact CZ hb h
 case mul=>exact CZ hb h
 case quo=>obtain⟨h1,h2⟩:=aB hb h;exact⟨by rw[dO]at h1;simpa using h1,_,rfl,hb.iS h2⟩
 case rem=>obtain⟨h1,h2⟩:=aB hb h;exact⟨by rw[dO]at h1;simpa using h1,_,rfl,hb.iS h2⟩
 case eql=>rw[←dO];exact h
 case neq=>rw[←dO];exact h
 case lss=>rw[←nS];exact h
 case leq=>rw[←dM];exact h
 case gtr=>rw[←nS];exact h
 case geq=>rw[←dM];exact h
 all_goals
  simp only[yZ]at h ⊢;exact hb.iS h
theorem KR{op:BinOp}{a b:ByteArray}{K:D→R}(h:T (Ms al op a b K)):qW op a b (fun d=>T (K d)):=by
 cases op<;>simp only[Ms]at h<;>simp only[qW]
 case add=>
  obtain⟨h1,h2⟩:=aB hb h;have h1:=Nat.le_of_ble_eq_true h1;rw[jW,jW]at h1;rw[IY]at h2;exact⟨by omega,h2⟩
 case eql=>rw[←sS];exact h
 case neq=>rw[←sS];exact h
 all_goals exact(hb.bot h).elim
theorem LX{op:BinOp}{x y:D}{K:D→R}(h:T (L7 al op x y K)):tE op x y (fun d=>T (K d)):=by
 unfold L7 at h;unfold tE
 split at h
 ·exact Mo hb h
 ·exact KR hb h
 ·exact(hb.bot h).elim
omit hb in
theorem B2(a b:Bool):qt a b=(a==b):=by cases a<;>cases b<;>rfl
theorem Lg{op:BinOp}{x y:D}{K:D→R}(h:T (K2 al op x y K)):nG op x y (fun d=>T (K d)):=by
 unfold K2 at h;unfold nG
 split at h
 ·split at h
  ·rw[B2]at h;exact h
  ·rw[B2]at h;exact h
  ·exact(hb.bot h).elim
 ·exact(hb.bot h).elim
theorem KZ{ik:IntKind}{op:BinOp}{x y:D}{K:D→R}(h:T (KY al ik op x y K)):rA ik op x y (fun d=>T (K d)):=by
 unfold KY at h;unfold rA
 split at h
 ·rename_i l m e1 e2;obtain⟨h1,h2⟩:=aB hb h;simp only[e1,e2,h1,cond_true]
  split at h2
  ·rw[oJ]at h2;exact h2
  ·rw[oJ]at h2;exact h2
  ·exact(hb.bot h2).elim
 ·exact(hb.bot h).elim
theorem Nx{op:UnOp}{x:D}{K:D→R}(h:T (unG al op x K)):B1 op x (fun d=>T (K d)):=by
 unfold unG at h;unfold B1
 split at h
 ·exact h
 ·exact CZ hb h
 ·exact(hb.bot h).elim
variable {E:TE}{η:Env}{t:Nat}{k:Kr R}
theorem IU{t':Nat}{x:D}(h:T (H9 al E η t' x k)):eS E η t' x (fun d rd e=>T (k d rd e)):=by
 unfold H9 at h
 split at h
 ·exact(hb.bot h).elim
 ·rename_i i hi;unfold eS
  split at h
  ·rename_i b v o;simp only[hi]
   split at h
   ·rename_i v' t'' cs hη;obtain⟨h1,h⟩:=aB hb h;simp only[hη,h1,cond_true]
    split at h
    ·rename_i ha;obtain⟨h2,h⟩:=aB hb h;simp only[ha,cond_true];exact⟨Nat.le_of_ble_eq_true h2,h⟩
    ·rename_i ha;simp only[ha,cond_false];exact gO hb h
   ·exact(hb.bot h).elim
  ·rename_i b v sz j o;simp only[hi]
   split at h
   ·rename_i v' e sz' rows hη;obtain⟨h1,h⟩:=aB hb h;simp only[hη,h1,cond_true];obtain⟨r,hr,h⟩:=gO hb h;refine⟨r,hr,?_⟩
    split at h
    ·rename_i ha;obtain⟨h2,h⟩:=aB hb h;simp only[ha,cond_true];exact⟨Nat.le_of_ble_eq_true h2,h⟩
    ·rename_i ha;simp only[ha,cond_false];exact gO hb h
   ·exact(hb.bot h).elim
  ·rename_i sz rows j o;simp only[hi];obtain⟨r,hr,h⟩:=gO hb h;refine⟨r,hr,?_⟩
   split at h
   ·rename_i ha;obtain⟨h2,h⟩:=aB hb h;simp only[ha,cond_true];exact⟨Nat.le_of_ble_eq_true h2,h⟩
   ·rename_i ha;simp only[ha,cond_false];exact gO hb h
  ·exact(hb.bot h).elim
theorem HV{t':Nat}{x y:D}(h:T (AI al E η t' x y k)):fM E η t' x y (fun d rd e=>T (k d rd e)):=by
 unfold AI at h
 split at h
 ·exact(hb.bot h).elim
 ·rename_i i hi;unfold fM
  split at h
  ·rename_i b v o;simp only[hi]
   split at h
   ·rename_i v' bt cs hη;obtain⟨h1,h⟩:=aB hb h;simp only[Bool.and_eq_true]at h1;obtain⟨⟨⟨⟨h1,h2⟩,h3⟩,h4⟩,h5⟩:=h1;simp only[hη,h1,h2,Bool.and_self,cond_true];exact⟨h3,Nat.le_of_ble_eq_true h4,b6 h5,h⟩
   ·exact(hb.bot h).elim
  ·rename_i b v sz j o;simp only[hi]
   split at h
   ·rename_i v' e sz' rows hη;obtain⟨h1,h⟩:=aB hb h;simp only[hη,h1,cond_true];obtain⟨r,hr,h⟩:=gO hb h;refine⟨r,hr,?_⟩
    split at h
    ·rename_i fs is hm;obtain⟨h2,h⟩:=aB hb h;simp only[Bool.and_eq_true]at h2;obtain⟨⟨⟨h2,h3⟩,h4⟩,h5⟩:=h2;simp only[hm];exact⟨h2,Nat.le_of_ble_eq_true h3,b6 h4,by simpa using h5,h⟩
    ·exact(hb.bot h).elim
   ·exact(hb.bot h).elim
  ·exact(hb.bot h).elim
theorem wD{t' j:Nat}{x:D}(h:T (nw al E t' x j k)):bX E t' x j (fun d rd e=>T (k d rd e)):=by
 unfold nw at h;unfold bX
 split at h
 ·rename_i he
  split at h
  ·rename_i o' s' g hj;obtain⟨h1,h⟩:=aB hb h;simp only[he,hj,h1,cond_true]
   split at h
   ·exact h
   ·exact h
   ·exact h
   ·exact(hb.bot h).elim
  ·exact(hb.bot h).elim
 ·exact(hb.bot h).elim
theorem F4{t' j:Nat}{x:D}(h:T (BY al E t' x j k)):ey E t' x j (fun d rd e=>T (k d rd e)):=by
 unfold BY at h;unfold ey
 split at h
 ·rename_i he
  split at h
  ·rename_i o' s' g hj
   split at h
   ·obtain⟨h1,h⟩:=aB hb h;simp only[he,hj,h1,cond_true]
    split at h
    ·exact h
    ·exact gO hb h
   ·obtain⟨h1,h⟩:=aB hb h;simp only[he,hj,h1,cond_true]
    split at h
    ·exact h
    ·exact gO hb h
   ·exact(hb.bot h).elim
  ·exact(hb.bot h).elim
 ·exact(hb.bot h).elim
theorem xt{t':Nat}{x y:D}(h:T (m3 al E η t' x y k)):bu E η t' x y (fun d rd e=>T (k d rd e)):=by
 unfold m3 at h;unfold bu
 split at h
 ·split at h
  ·rename_i e sz by_ he;simp only[he]
   split at h
   ·split at h
    ·rename_i v' e' sz' rows hη;obtain⟨h1,h⟩:=aB hb h;simp only[hη,h1,cond_true];obtain⟨i,hi,h⟩:=jE hb h;obtain⟨h2,h⟩:=aB hb h;exact⟨i,hi,b6 h2,h⟩
    ·exact(hb.bot h).elim
   ·obtain⟨i,hi,h⟩:=jE hb h;obtain⟨r,hr,h⟩:=gO hb h;obtain⟨h2,h⟩:=aB hb h;exact⟨i,hi,r,hr,Nat.eq_of_beq_eq_true h2,h⟩
   ·exact(hb.bot h).elim
  ·rename_i len e sz he;simp only[he]
   split at h
   ·obtain⟨i,hi,h⟩:=jE hb h;obtain⟨h2,h⟩:=aB hb h;exact⟨i,hi,b6 h2,h⟩
   ·obtain⟨i,hi,h⟩:=jE hb h;obtain⟨h2,h⟩:=aB hb h;exact⟨i,hi,b6 h2,h⟩
   ·obtain⟨i,hi,h⟩:=jE hb h;obtain⟨h2,h⟩:=aB hb h;exact⟨i,hi,b6 h2,h⟩
   ·exact(hb.bot h).elim
  ·exact(hb.bot h).elim
 ·exact(hb.bot h).elim
theorem HJ{t':Nat}{x y:D}(h:T (BK al E t' x y k)):gz E t' x y (fun d rd e=>T (k d rd e)):=by
 unfold BK at h;unfold gz
 split at h
 ·split at h
  ·rename_i he;obtain⟨i,hi,h⟩:=jE hb h;obtain⟨u,hu,h⟩:=gO hb h;simp only[he];exact⟨i,hi,u,by simpa using hu,h⟩
  ·exact(hb.bot h).elim
 ·exact(hb.bot h).elim
theorem pg{d:Nat}{x:Option D}{K:Nat→R}(h:T (pP al d x K)):bound d x (fun i=>T (K i)):=by
 unfold pP at h;unfold bound
 split at h
 ·exact h
 ·exact jE hb h
 ·exact(hb.bot h).elim
omit hb in
theorem jT{d:Nat}{x:Option D}{K K':Nat→Prop}(h:bound d x K)(hk:∀i,K i→K' i):bound d x K':=by
 unfold bound at *
 split at h
 ·exact hk _ h
 ·obtain⟨i,hi,h⟩:=h;exact⟨i,hi,hk _ h⟩
 ·exact h.elim
omit hb in
theorem nH{sz:Nat}{rows:List (List F)}(h:kV sz rows=true):∀r∈rows,r.length=sz:=by
 intro r hr;unfold kV at h;rw[List.all_eq_true]at h;exact Nat.eq_of_beq_eq_true (h r hr)
theorem GN{t':Nat}{x:D}{lo hi:Option (Option D)}{mx:Bool}(h:T (An al E t' x lo hi mx k)):fK E t' x lo hi mx (fun d rd e=>T (k d rd e)):=by
 unfold An at h
 split at h
 ·exact(hb.bot h).elim
 ·unfold fK;simp only[cond_false]
  split at h
  ·split at h
   ·rename_i he;simp only[he];refine jT (pg hb h) fun l h=>jT (pg hb h) fun hh h=>?_
    obtain⟨h1,h⟩:=aB hb h;simp only[Bool.and_eq_true]at h1;rw[jW]at h1;rw[xu]at h;exact⟨Nat.le_of_ble_eq_true h1.1,Nat.le_of_ble_eq_true h1.2,h⟩
   ·rename_i he;simp only[he];refine jT (pg hb h) fun l h=>jT (pg hb h) fun hh h=>?_
    obtain⟨h1,h⟩:=aB hb h;simp only[Bool.and_eq_true]at h1;exact⟨Nat.le_of_ble_eq_true h1.1.1,Nat.le_of_ble_eq_true h1.1.2,nH h1.2,h⟩
   ·exact(hb.bot h).elim
  ·exact(hb.bot h).elim
theorem Ao{j:Nat}{x:D}(h:T (sF al x j k)):eJ x j (fun d rd e=>T (k d rd e)):=by
 unfold sF at h;unfold eJ
 split at h
 ·exact gO hb h
 ·exact(hb.bot h).elim
theorem HO{t':Nat}{ps:List (Nat×Option D)}(h:T (AA al E t' ps k)):fH E t' ps (fun d rd e=>T (k d rd e)):=by
 unfold AA at h;unfold fH
 split at h
 ·rename_i he;simp only[he]
  split at h
  ·rename_i hf;simp only[hf];exact h
  ·exact(hb.bot h).elim
 ·rename_i he;simp only[he]
  split at h
  ·rename_i hf;simp only[hf];exact h
  ·exact(hb.bot h).elim
 ·exact(hb.bot h).elim
theorem KO{t' m:Nat}{ps:List (Nat×Option D)}(h:T (Li al E η t t' m ps k)):pb E η t t' m ps (fun d rd e=>T (k d rd e)):=by
 unfold Li at h;unfold pb
 split at h
 ·rename_i he;simp only[he]
  split at h
  ·rename_i hf;obtain⟨h1,h⟩:=aB hb h;simp only[hf,h1,cond_true];exact h
  ·exact(hb.bot h).elim
 ·exact(hb.bot h).elim
theorem Jy{t':Nat}{l c:D}(h:T (E8 al E η t t' l c k)):jH E η t t' l c (fun d rd e=>T (k d rd e)):=by
 unfold E8 at h;unfold jH
 split at h
 ·rename_i he;simp only[he]
  split at h
  ·rename_i i hi;obtain⟨h1,h⟩:=aB hb h;obtain⟨j,hj,h⟩:=jE hb h;obtain⟨j',hj',h⟩:=jE hb h;obtain⟨h2,h⟩:=aB hb h;simp only[Bool.and_eq_true,Bool.or_eq_true]at h2;obtain⟨⟨h2,h3⟩,h4⟩:=h2;simp only[hi];exact⟨Nat.eq_of_beq_eq_true h1,j,hj,j',hj',h2.imp Nat.eq_of_beq_eq_true Nat.eq_of_beq_eq_true,Nat.le_of_ble_eq_true h3,Nat.le_of_ble_eq_true h4,h⟩
  ·exact(hb.bot h).elim
 ·exact(hb.bot h).elim
theorem Lh{t':Nat}{x:D}(h:T (Ll al E η t' x k)):j8 E η t' x (fun d rd e=>T (k d rd e)):=by
 unfold Ll at h;unfold j8
 split at h
 ·rename_i he
  split at h
  ·simp only[he];exact h
  ·exact(hb.bot h).elim
 ·rename_i he
  split at h
  ·simp only[he];exact h
  ·simp only[he];exact h
  ·simp only[he]
   split at h
   ·rename_i hη;obtain⟨h1,h⟩:=aB hb h;simp only[hη,h1,cond_true];exact h
   ·exact(hb.bot h).elim
  ·exact(hb.bot h).elim
 ·exact(hb.bot h).elim
theorem DT{t':Nat}{x y:D}(h:T (wY al E η t t' x y k)):ed E η t t' x y (fun d rd e=>T (k d rd e)):=by
 unfold wY at h;unfold ed
 split at h
 ·rename_i he hs;simp only[he,hs]
  split at h
  ·split at h
   ·rename_i hη;obtain⟨h1,h⟩:=aB hb h;simp only[Bool.and_eq_true]at h1;obtain⟨⟨⟨⟨⟨h1,h2⟩,h3⟩,h4⟩,h5⟩,h6⟩:=h1;simp only[hη,h1,h2,h3,Bool.and_self,cond_true];exact⟨nH h4,Nat.le_of_ble_eq_true h5,Nat.le_of_ble_eq_true h6,h⟩
   ·exact(hb.bot h).elim
  ·obtain⟨h1,h⟩:=aB hb h;simp only[Bool.and_eq_true]at h1;exact⟨nH h1.1.1,Nat.le_of_ble_eq_true h1.1.2,Nat.le_of_ble_eq_true h1.2,h⟩
  ·exact(hb.bot h).elim
 ·exact(hb.bot h).elim
omit hb in
theorem pv:∀{rows:List (List F)}{bs:List UInt8},bytesOf rows=some bs→rows=bs.map fun b=>[.vl (.int .u8 b.toNat)]
 |[],bs,h=>by simp[bytesOf]at h;simp[←h]
 |r::l,bs,h=>by
  simp only[bytesOf]at h
  split at h
  ·rename_i n
   cases hn:Nat.blt n 256 with
   |false=>rw[hn]at h;cases h
   |true=>
    rw[hn]at h;simp only[cond_true]at h
    split at h
    ·rename_i m hm
     cases h;have:=b6 hn;rw[List.map_cons,←pv hm];have e:(UInt8.ofNat n).toNat=n:=by simp;omega
     rw[e];rfl
    ·cases h
  ·cases h
theorem JJ{t1 t2:Nat}{x:D}(h:T (GS al E η t1 t2 x k)):jL E η t1 t2 x (fun d rd e=>T (k d rd e)):=by
 unfold GS at h;unfold jL
 split at h
 ·rename_i e1 e2
  split at h
  ·obtain⟨h1,h2⟩:=aB hb h;simp only[e1,e2];rw[FZ]at h1;subst h1;simp only[decide_true,cond_true];exact⟨_,rfl,hb.iS h2⟩
  ·exact(hb.bot h).elim
 ·rename_i e1 e2
  split at h
  ·rename_i e3
   split at h
   ·rename_i rows rd hs
    split at h
    ·rename_i bs hbs;obtain⟨h1,h⟩:=aB hb h;simp only[e1,e2,e3,hs];exact⟨Nat.eq_of_beq_eq_true h1,bs,pv hbs,h⟩
    ·exact(hb.bot h).elim
   ·exact(hb.bot h).elim
  ·exact(hb.bot h).elim
 ·exact(hb.bot h).elim
variable {Gr:CR R}{G:CG}{ρ:Operand→Option D}
theorem Ja(hG:∀t η f l k,T (Gr t η f l k)→G t η f l (fun d rd e=>T (k d rd e))){c:Call}(h:T (Hv al E η t Gr ρ c k)):dY E η t G ρ c (fun d rd e=>T (k d rd e)):=by
 unfold Hv at h;unfold dY
 split at h
 ·rename_i hc
  split at h
  ·rename_i e1 e2
   split at h
   ·rename_i hx;simp only[hx,hc,e1,e2];exact Lh hb h
   ·exact(hb.bot h).elim
  ·exact(hb.bot h).elim
 ·rename_i hc
  split at h
  ·rename_i e1 e2
   split at h
   ·rename_i hx hy;obtain⟨h1,h⟩:=aB hb h;simp only[hx,hy,h1,cond_true,hc,e1,e2];exact DT hb h
   ·exact(hb.bot h).elim
  ·exact(hb.bot h).elim
 ·rename_i hc
  split at h
  ·rename_i e1
   split at h
   ·rename_i a b hx hy;simp only[hx,hy,hc,e1];have e:(bif leI a b then b else a)=max a b:=by
     rw[dM]
     by_cases hl:a≤b
     ·simp[hl];omega
     ·simp[hl];omega
    rw[e]at h;exact h
   ·exact(hb.bot h).elim
  ·exact(hb.bot h).elim
 ·rename_i hc
  split at h
  ·rename_i e1
   split at h
   ·rename_i a b hx hy;simp only[hx,hy,hc,e1];have e:(bif leI a b then a else b)=min a b:=by
     rw[dM]
     by_cases hl:a≤b
     ·simp[hl];omega
     ·simp[hl];omega
    rw[e]at h;exact h
   ·exact(hb.bot h).elim
  ·exact(hb.bot h).elim
 ·rename_i hc
  split at h
  ·rename_i hf hl;simp only[hf,hl,hc];exact hG _ _ _ _ _ h
  ·rename_i hf hl;simp only[hf,hl,hc];exact hG _ _ _ _ _ h
  ·exact(hb.bot h).elim
 ·exact(hb.bot h).elim
theorem L5(hG:∀t η f l k,T (Gr t η f l k)→G t η f l (fun d rd e=>T (k d rd e))){op:Op}(h:T (K7 al E η t Gr ρ op k)):Vc.wpOp E η t G ρ op (fun d rd e=>T (k d rd e)):=by
 unfold K7 at h;unfold Vc.wpOp
 split at h
 ·split at h
  ·rename_i hx;simp only[hx];exact h
  ·exact(hb.bot h).elim
 ·split at h
  ·rename_i hx;simp only[hx];exact h
  ·exact(hb.bot h).elim
 ·split at h
  ·rename_i hx hy hz;simp only[hx,hy,hz];exact CQ hb h
  ·exact(hb.bot h).elim
 ·split at h
  ·rename_i hi;obtain⟨h1,h⟩:=aB hb h;simp only[hi,h1,cond_true];exact h
  ·exact(hb.bot h).elim
 ·split at h
  ·rename_i hx;simp only[hx];exact aB hb h
  ·exact(hb.bot h).elim
 ·exact HO hb h
 ·exact KO hb h
 ·split at h
  ·rename_i hx;simp only[hx];exact IU hb h
  ·exact(hb.bot h).elim
 ·split at h
  ·rename_i hx hy;simp only[hx,hy];exact HV hb h
  ·exact(hb.bot h).elim
 ·split at h
  ·rename_i hx;simp only[hx];exact h
  ·rename_i hx;simp only[hx];exact h
  ·rename_i hx;simp only[hx];exact h
  ·rename_i hx;simp only[hx];exact h
  ·rename_i hx;simp only[hx];exact h
  ·exact(hb.bot h).elim
 ·split at h
  ·rename_i hx hy;simp only[hx,hy]
   split at h
   ·rename_i he;simp only[he];exact Lg hb h
   ·rename_i he;simp only[he]
    split at h
    ·rename_i hie;obtain⟨h1,h⟩:=aB hb h;simp only[hie,h1,cond_true];exact KZ hb h
    ·exact(hb.bot h).elim
   ·rename_i he1 he2
    split
    ·rename_i hee;exact absurd hee (he1 _ _)
    ·rename_i hee;exact absurd hee (he2 _ _ _ _ _)
    ·exact LX hb h
  ·exact(hb.bot h).elim
 ·split at h
  ·rename_i hx;simp only[hx];exact Nx hb h
  ·exact(hb.bot h).elim
 ·split at h
  ·rename_i hx;simp only[hx];exact JJ hb h
  ·exact(hb.bot h).elim
 ·split at h
  ·rename_i hf hl;simp only[hf,hl];exact h
  ·exact(hb.bot h).elim
 ·split at h
  ·rename_i hx hy;simp only[hx,hy];exact Jy hb h
  ·exact(hb.bot h).elim
 ·split at h
  ·rename_i hx;simp only[hx];exact GN hb h
  ·exact(hb.bot h).elim
 ·split at h
  ·rename_i hx;simp only[hx];exact wD hb h
  ·exact(hb.bot h).elim
 ·split at h
  ·rename_i hx;simp only[hx];exact F4 hb h
  ·exact(hb.bot h).elim
 ·split at h
  ·rename_i hx hy;simp only[hx,hy];exact xt hb h
  ·exact(hb.bot h).elim
 ·split at h
  ·rename_i hx hy;simp only[hx,hy];exact HJ hb h
  ·exact(hb.bot h).elim
 ·split at h
  ·rename_i hx;simp only[hx];exact Ao hb h
  ·exact(hb.bot h).elim
 ·exact Ja hb hG h
 ·exact(hb.bot h).elim
theorem KE{Q:Nat→Bool}(hG:∀t η f l k,T (Gr t η f l k)→G t η f l (fun d rd e=>T (k d rd e))){op:Op}(h:T (opG al E η t Q Gr ρ op k)):yW Q E η t G ρ op (fun d rd e=>T (k d rd e)):=by
 unfold opG at h
 cases e:Nl Q E ρ op with
 |true=>rw[e]at h;exact .inr (L2 hb h)
 |false=>rw[e]at h;exact .inl (L5 hb hG h)
end
structure Fi where
 body:Code
 N:Nat
 rs:List ResultVar
structure Tx where
 E:TE
 Γ:Nat→Option (List F)
 fi:Nat→Option Fi
 pu:Nat→Bool
 Q:Nat→Bool
 bd:Nat→Nat
 bt:Nat→Nat
 u8:Nat
 hp:Nat→Bool
structure Orc (R:Type) where
 pu:FuncId→List F→(F×Bool→R)→R
 he:Nat→Env→FuncId→List D→Kr R→R
 ye:Nat→Env→Nat→Nat→List D→Kr R→R
inductive KI where
 |code (c:Code)
 |blk (id:Nat)
 |loop (c:Code)
 |scope (c:Code)
 |reg (ops:Array Oper) (l:List Oper)
 |rf (b v:Nat)
 |erf (b v:Nat)
 |br
structure Fm where
 f:Nat
 N:Nat
 s:List (Nat×D)
 k:List KI
 ds:List (Nat×Nat)
 ro:Option (Nat×Nat)
structure Cfg where
 top:Fm
 cs:List Fm
 h:List (Nat×B)
 nx:Nat
def j9:Nat→List D→List (Nat×D)
 |_,[]=>[]
 |i,d::l=>(i,d)::j9 (i+1) l
def dH(id:Nat):List KI→Option (List KI)
 |.blk id'::k=>bif Nat.beq id' id then some k else dH id k
 |_::k=>dH id k
 |[]=>none
def dF(l:Nat):List KI→Option (List KI)
 |.scope body::k=>match findLabel body l with
  |some rest=>some (.code rest :: .scope body::k)
  |none=>dF l k
 |_::k=>dF l k
 |[]=>none
def xV:List Nat→List D→List (Nat×D)→List (Nat×D)
 |p::ps,d::ds,s=>xV ps ds ((p,d)::s)
 |_,_,s=>s
def dOk(N:Nat):Option Nat→Bool
 |some t=>Nat.blt t N
 |none=>true
def mD(s:List (Nat×D))(dst:Option Nat)(d:D):List (Nat×D):=match dst with
 |some t=>(t,d)::s
 |none=>s
def td:List (Nat×Nat)→List (Nat×B)→Option (List (Nat×B))
 |[],h=>some h
 |(b,v)::l,h=>match lk h b with
  |some (.df v')=>bif Nat.beq v v' then td l ((b,.gone v)::h)else none
  |_=>none
def okR:D→Bool
 |.mcl _ _ _=>false
 |_=>true
mutual
def Ok:D→Bool
 |.ptr _ _ _=>true
 |.rp _ _ _ _ _=>true
 |.yl _ _=>true
 |.ag l=>hH l
 |.tp l=>hH l
 |.cl _ l=>hH l
 |.mcl _ l m=>hH l||hH m
 |_=>false
def hH:List D→Bool
 |[]=>false
 |d::l=>Ok d||hH l
end
mutual
def cN(η:Env):D→Bool
 |.fr x=>x.flat
 |.ag l=>lK η l
 |.tp l=>lK η l
 |.cl _ l=>lK η l
 |.own b v=>match η b with
  |some (.ro _ _ _ rows)=>rows.all F.flat.lu
  |_=>false
 |.sub b v sz lo hi ex=>match η b with
  |some (.ro _ _ _ rows)=>rows.all F.flat.lu
  |_=>false
 |_=>false
def lK(η:Env):List D→Bool
 |[]=>true
 |d::l=>cN η d&&lK η l
end
section
variable {R:Type} (al:Al R) (X:Tx) (O:Orc R) (fin:D→List (Nat×B)→R) (K:Cfg→R)
def j7(dr:Bool):CR R:=fun t η f l k=>match X.hp f with
 |true=>O.he t η f l k
 |false=>match X.bd f with
 |kind+1=>(match bdX X.E (X.bt f) X.u8 (kind+1) t η l with
 |some (d,rd,e)=>k d rd e
 |none=>al.bot)
 |0=>match cB (D.toF η 6) l with
 |some (fl,is)=>O.pu f fl fun r=>bif r.1.flat||r.2 then k r.1.toD is []else bif dr && !is.isEmpty then al.bot else k r.1.toD is (aU η is)
 |none=>al.bot
def jG(c:Fm)(d:D)(cs:List Fm)(h:List (Nat×B))(nx:Nat):R:=match c.k with
 |.reg ops (o::l)::k=>al.ak (dOk c.N o.dst) (K ⟨{ c with s:=mD c.s o.dst d,k:=.reg ops l::k },cs,h,nx⟩)
 |.rf b v::k=>K ⟨{ c with k:=.erf b v::k },cs,h,nx⟩
 |_=>al.bot
def ED(c:Cfg):R:=match X.fi c.top.f,td c.top.ds c.h with
 |some fi,some h=>(match jb (fi.rs.map (DN X.E ⟨c.top.s,h⟩))with
  |some ds=>(match c.cs with
   |[]=>al.ak (okR (oK ds)) (fin (oK ds) h)
   |c1::cs=>jG al K c1 (oK ds) cs h c.nx)
  |none=>al.bot)
 |_,_=>al.bot
def kx(c:Cfg)(j:Option Code):R:=match c.top.ro with
 |none=>(match j with
  |none=>ED al X fin K c
  |some .ret=>ED al X fin K c
  |_=>al.bot)
 |some (b,v)=>(match lk c.h b,c.cs,c.top.ds with
  |some (.lp v' L),c1::cs,[]=>al.ak (Nat.beq v v') (jG al K c1 (Bo j.isNone) cs ((b,.lp v { L with st:=bif j.isNone then 0 else 2,gF:=j })::c.h) c.nx)
  |some (.lp v' L),[],[]=>al.ak (Nat.beq v v') (fin (.mcl 0 [] [Bo j.isNone]) ((b,.lp v { L with st:=bif j.isNone then 0 else 2,gF:=j })::c.h))
  |_,_,_=>al.bot)
def eP(f:Nat)(l:List D)(cs:List Fm)(h:List (Nat×B))(nx:Nat):R:=bif X.hp f then(match cs with
 |c1::cs=>O.he nx (lk h) f l fun d _ e=>jG al K c1 d cs (e++h) (nx+1)
 |[]=>al.bot)else match X.fi f with
 |some fi=>al.ak (Nat.ble l.length fi.N) (K ⟨⟨f,fi.N,j9 0 l,[.code fi.body],[],none⟩,cs,h,nx⟩)
 |none=>al.bot
def vO(c:Cfg)(o:Oper)(ops:Array Oper)(l:List Oper)(k:List KI):R:=
 let fm:={ c.top with k:=.reg ops l::k }
 let put:Kr R:=fun d _ e=>K ⟨{ fm with s:=mD fm.s o.dst d },c.cs,e++c.h,c.nx+1⟩
 al.ak (dOk c.top.N o.dst) (match o.op with
  |.call ⟨.value x,args,tys⟩=>(match evD X.Γ c.top.s x,jb (args.toList.map (evD X.Γ c.top.s))with
   |some (.cl f cs),some a=>bif X.hp f||Nat.blt 0 (X.bd f)||(X.pu f && !hH (a++cs))then j7 al X O false c.nx (lk c.h) f (a++cs) put else eP al X O K f (a++cs) ({ c.top with k:=.reg ops (o::l)::k }::c.cs) c.h c.nx
   |some (.fr (.cl f cs)),some a=>bif X.hp f||Nat.blt 0 (X.bd f)||(X.pu f && !hH a)then j7 al X O false c.nx (lk c.h) f (a++cs.map F.toD) put else eP al X O K f (a++cs.map F.toD) ({ c.top with k:=.reg ops (o::l)::k }::c.cs) c.h c.nx
   |some (.mcl f fs cs),some a=>bif X.hp f||Nat.blt 0 (X.bd f)||(X.pu f && !hH (fs++a++cs))then j7 al X O false c.nx (lk c.h) f (fs++a++cs) put else eP al X O K f (fs++a++cs) ({ c.top with k:=.reg ops (o::l)::k }::c.cs) c.h c.nx
   |some (.yl b v),some a=>(match lk c.h b with
    |some (.lp v' L)=>al.ak (Nat.beq v v'&&Nat.beq a.length L.ps.length&&L.ps.all fun p=>Nat.blt p L.N)
      (K ⟨⟨L.f,L.N,xV L.ps a L.s,[.code L.asg,.br,.code L.body],[],some (b,v)⟩,{ c.top with k:=.reg ops (o::l)::k }::c.cs,c.h,c.nx⟩)
    |some (.ab v' _)=>al.ak (Nat.beq v v') (O.ye c.nx (lk c.h) b v a put)
    |_=>al.bot)
   |_,_=>al.bot)
  |op=>opG al X.E (lk c.h) c.nx X.Q (fun _ _ _ _ _=>al.bot) (evD X.Γ c.top.s) op put)
def o5(ops:Array Oper):Bool:=ops.toList.all fun o=>match o.op with
 |.defer _=>false
 |_=>true
def ou(N:Nat)(b0:Nat)(ops:Array Oper)(K:List (Nat×D)→List (Nat×B)→R):List Ac→List Oper→List (Nat×D)→List (Nat×B)→R
 |acc,[],s,h=>al.ak (okD ops acc.reverse) (K s h)
 |acc,o::l,s,h=>al.ak (dOk N o.dst) (match o.guard with
  |none=>opG al X.E (lk h) (b0+o.dst.getD 0) X.Q (j7 al X O true) (evD X.Γ s) o.op fun d rd e=>ou N b0 ops K (.ex d rd e::acc) l (mD s o.dst d) (e++h)
  |some (j,want)=>match gd ops j with
   |some dj=>al.ak (Nat.blt dj N) (match lk s dj with
    |some (.fr (.vl (.bool b)))=>al.ni (qt b want)
     (let s:=(dj,.fr (.vl (.bool want)))::s;opG al X.E (lk h) (b0+o.dst.getD 0) X.Q (j7 al X O true) (evD X.Γ s) o.op fun d rd e=>ou N b0 ops K (.ex d rd e::acc) l (mD s o.dst d) (e++h))
     (let s:=(dj,.fr (.vl (.bool (!want))))::s;ou N b0 ops K (.sk::acc) l (mD s o.dst Un) h)
    |some (.fr (.vl (.tuple _)))=>ou N b0 ops K (.sk::acc) l (mD s o.dst Un) h
    |_=>al.bot)
   |none=>al.bot)
def stepG(c:Cfg):R:=match c.top.k with
 |[]=>kx al X fin K c none
 |.code cd::k=>(match cd with
  |.skip=>K { c with top:={ c.top with k:=k } }
  |.label _=>K { c with top:={ c.top with k:=k } }
  |.seq a b=>K { c with top:={ c.top with k:=.code a :: .code b::k } }
  |.cond x a b=>GO al ((evD X.Γ c.top.s x).getD Un) fun q=>al.ni q (K { c with top:={ c.top with k:=.code a::k } }) (K { c with top:={ c.top with k:=.code b::k } })
  |.block id b=>K { c with top:={ c.top with k:=.code b :: .blk id::k } }
  |.loop b=>K { c with top:={ c.top with k:=.loop b::k } }
  |.scope b=>K { c with top:={ c.top with k:=.code b :: .scope b::k } }
  |.exit id=>(match dH id k with
   |some k'=>K { c with top:={ c.top with k:=k' } }
   |none=>kx al X fin K c (some (.exit id)))
  |.goto l=>(match dF l k with
   |some k'=>K { c with top:={ c.top with k:=k' } }
   |none=>kx al X fin K c (some (.goto l)))
  |.ret=>kx al X fin K c (some .ret)
  |.region id ops false=>K { c with top:={ c.top with k:=.reg ops ops.toList::k } }
  |.region id ops true=>al.ak (o5 ops) <| ou al X O c.top.N c.nx ops (fun s h=>K { c with top:={ c.top with s:=s,k:=k },h:=h,nx:=c.nx+c.top.N }) [] ops.toList c.top.s c.h
  |.rangeFunc x ps a b=>(match evD X.Γ c.top.s x with
   |some d=>(match c.top.ro with
    |none=>
     let h:=(c.nx+1,.lp (nv (up (lk c.h) c.nx (.df (nv (lk c.h) c.nx))) (c.nx+1)) ⟨0,none,c.top.f,c.top.N,c.top.s,ps.toList,a,b,c.nx,nv (lk c.h) c.nx⟩)::(c.nx,.df (nv (lk c.h) c.nx))::c.h
     let v:=nv (up (lk c.h) c.nx (.df (nv (lk c.h) c.nx))) (c.nx+1)
     let fm:={ c.top with k:=.rf (c.nx+1) v::k,ds:=(c.nx,nv (lk c.h) c.nx)::c.top.ds }
     (match d with
     |.cl f cs=>eP al X O K f (.yl (c.nx+1) v::cs) (fm::c.cs) h (c.nx+2)
     |.fr (.cl f cs)=>eP al X O K f (.yl (c.nx+1) v::cs.map F.toD) (fm::c.cs) h (c.nx+2)
     |_=>al.bot)
    |some (b0,v0)=>(match lk c.h b0 with
     |some (.lp v' L)=>al.ak (Nat.beq v0 v') (
      let v:=nv (lk c.h) c.nx
      let h:=(c.nx,.lp v ⟨0,none,c.top.f,c.top.N,c.top.s,ps.toList,a,b,L.db,L.dv⟩)::c.h
      let fm:={ c.top with k:=.rf c.nx v::k }
      match d with
      |.cl f cs=>eP al X O K f (.yl c.nx v::cs) (fm::c.cs) h (c.nx+1)
      |.fr (.cl f cs)=>eP al X O K f (.yl c.nx v::cs.map F.toD) (fm::c.cs) h (c.nx+1)
      |_=>al.bot)
     |_=>al.bot))
   |none=>al.bot)
  |.refuse _=>al.bot)
 |.blk _::k=>K { c with top:={ c.top with k:=k } }
 |.scope _::k=>K { c with top:={ c.top with k:=k } }
 |.loop b::k=>K { c with top:={ c.top with k:=.code b :: .loop b::k } }
 |.reg ops []::k=>K { c with top:={ c.top with k:=k } }
 |.reg ops (o::l)::k=>(match o.guard with
  |none=>vO al X O K c o ops l k
  |some (j,want)=>match gd ops j with
   |some dj=>al.ak (Nat.blt dj c.top.N) (match lk c.top.s dj with
    |some (.fr (.vl (.bool b)))=>al.ni (qt b want)
     (vO al X O K { c with top:={ c.top with s:=(dj,.fr (.vl (.bool want)))::c.top.s } } o ops l k)
     (al.ak (dOk c.top.N o.dst) (K { c with top:={ c.top with s:=mD ((dj,.fr (.vl (.bool (!want))))::c.top.s) o.dst Un,k:=.reg ops l::k } }))
    |some (.fr (.vl (.tuple _)))=>al.ak (dOk c.top.N o.dst) (K { c with top:={ c.top with s:=mD c.top.s o.dst Un,k:=.reg ops l::k } })
    |_=>al.bot)
   |none=>al.bot)
 |.rf _ _::_=>al.bot
 |.erf b v::k=>(match lk c.h b with
  |some (.lp v' L)=>al.ak (Nat.beq v v' && !Nat.beq L.st 1) (K { c with top:={ c.top with k:=(match L.gF with|some j=>.code j::k|none=>k) },h:=(b,.lp v { L with st:=3 })::c.h })
  |_=>al.bot)
 |.br::k=>(match c.top.ro with
  |some (b,v)=>(match lk c.h b with
   |some (.lp v' L)=>al.ak (Nat.beq v v'&&Nat.beq L.st 0) (K { c with top:={ c.top with k:=k },h:=(b,.lp v { L with st:=1 })::c.h })
   |_=>al.bot)
  |none=>al.bot)
end
end Go.Km
end
section
namespace Go.Km
open Go Go.RowKit Go.Vc
open Go.Sl hiding lk
abbrev At0(c:Cf)(b v g:Nat):Prop:=c.ι b v=some (some ⟨g,0,none⟩,0,0)
def bF(f:Nat)(ro:Option Nat):Frame:={ (default:Frame)with fn:=f,kind:=.normal,roundOf:=ro }
def KI.ok(c:Cf):KI→Item→Prop
 |.code cd,it=>it=.code cd
 |.blk id,it=>it=.inBlock id
 |.loop cd,it=>it=.inLoop cd
 |.scope cd,it=>it=.inScope cd
 |.reg ops l,it=>∃il:List Nat,it=.inRegion ops il∧il.map (fun i=>ops[i]?)=l.map some
 |.rf b v,it=>∃g,it=.inRangeFunc g∧At0 c b v g
 |.erf b v,it=>∃g,it=.endRangeFunc g∧At0 c b v g
 |.br,it=>it=.beginRound
def KIs(c:Cf):List KI→List Item→Prop
 |[],t=>t=[]
 |x::l,t=>∃it t',t=it::t'∧x.ok c it∧KIs c l t'
def bH(c:Cf):List (Nat×Nat)→List Deferred→Prop
 |[],ds=>ds=[]
 |p::l,ds=>∃gs ds',ds=gs.map (fun g=>{ target:=.collected g,args:=#[] })++ds'∧AtM c p.1 p.2 gs∧bH c l ds'
def jK(c:Cf):Option (Nat×Nat)→Option Nat→Prop
 |none,r=>r=none
 |some p,r=>∃g,r=some g∧At0 c p.1 p.2 g
structure sy(c:Cf)(fm:Fm)(fr:Frame):Prop where
 ex:∃(a:Act) (todo:List Item) (ro:Option Nat),fr=(bF fm.f ro).atR a todo∧bC c fm.N fm.s a.tmps∧KIs c fm.k todo∧bH c fm.ds a.defers∧jK c fm.ro ro
def Fms(c:Cf):List Fm→List Frame→Prop
 |[],fs=>fs=[]
 |m::l,fs=>∃f fs',fs=f::fs'∧sy c m f∧Fms c l fs'
def eG:Fm→List Fm→Nat
 |m,[]=>m.f
 |_,m::l=>eG m l
section
variable {c c':Cf}
theorem KI.ok.le(h:c.le c'):∀{x:KI}{it:Item},x.ok c it→x.ok c' it
 |.code _,_,hx=>hx
 |.blk _,_,hx=>hx
 |.loop _,_,hx=>hx
 |.scope _,_,hx=>hx
 |.reg _ _,_,hx=>hx
 |.rf _ _,_,⟨g,h1,h2⟩=>⟨g,h1,h.ι _ _ _ h2⟩
 |.erf _ _,_,⟨g,h1,h2⟩=>⟨g,h1,h.ι _ _ _ h2⟩
 |.br,_,hx=>hx
theorem KIs.le(h:c.le c'):∀{l:List KI}{t:List Item},KIs c l t→KIs c' l t
 |[],_,hx=>hx
 |_::_,_,⟨it,t',h1,h2,h3⟩=>⟨it,t',h1,h2.le h,KIs.le h h3⟩
theorem bH.le(h:c.le c'):∀{l:List (Nat×Nat)}{t:List Deferred},bH c l t→bH c' l t
 |[],_,hx=>hx
 |_::_,_,⟨g,t',h1,h2,h3⟩=>⟨g,t',h1,h2.le h,bH.le h h3⟩
theorem jK.le(h:c.le c'):∀{r:Option (Nat×Nat)}{t:Option Nat},jK c r t→jK c' r t
 |none,_,hx=>hx
 |some _,_,⟨g,h1,h2⟩=>⟨g,h1,h.ι _ _ _ h2⟩
theorem sy.le(h:c.le c'){fm:Fm}{fr:Frame}:sy c fm fr→sy c' fm fr
 |⟨a,todo,ro,h1,h2,h3,h4,h5⟩=>⟨a,todo,ro,h1,h2.le h,h3.le h,h4.le h,h5.le h⟩
theorem Fms.le(h:c.le c'):∀{l:List Fm}{t:List Frame},Fms c l t→Fms c' l t
 |[],_,hx=>hx
 |_::_,_,⟨f,t',h1,h2,h3⟩=>⟨f,t',h1,h2.le h,Fms.le h h3⟩
theorem eW{id:Nat}:∀{k k':List KI}{t:List Item},dH id k=some k'→KIs c k t→∃t',exitTo id t=some t'∧KIs c k' t'
 |[],_,_,h,_=>by simp[dH]at h
 |x::l,k',t,h,⟨it,t1,e,hx,hl⟩=>by
  subst e
  cases x with
  |blk id'=>
   simp only[dH]at h;have hx:it=.inBlock id':=hx;subst hx
   cases hb:Nat.beq id' id with
   |true=>
    rw[hb]at h;simp at h;subst h;have:=Nat.eq_of_beq_eq_true hb;subst this;exact⟨t1,by simp[exitTo],hl⟩
   |false=>
    rw[hb]at h;obtain⟨t',h1,h2⟩:=eW (k:=l) h hl;have hne:(id'==id)=false:=by rw[beq_eq_false_iff_ne];intro e;rw[e]at hb;simp at hb
    exact⟨t',by simp only[exitTo,hne];exact h1,h2⟩
  |code _=>have hx:it=_:=hx;subst hx;simp only[dH]at h;exact(eW (k:=l) h hl).imp fun t' ht=>⟨by simpa [exitTo]using ht.1,ht.2⟩
  |loop _=>have hx:it=_:=hx;subst hx;simp only[dH]at h;exact(eW (k:=l) h hl).imp fun t' ht=>⟨by simpa [exitTo]using ht.1,ht.2⟩
  |scope _=>have hx:it=_:=hx;subst hx;simp only[dH]at h;exact(eW (k:=l) h hl).imp fun t' ht=>⟨by simpa [exitTo]using ht.1,ht.2⟩
  |br=>have hx:it=_:=hx;subst hx;simp only[dH]at h;exact(eW (k:=l) h hl).imp fun t' ht=>⟨by simpa [exitTo]using ht.1,ht.2⟩
  |reg _ _=>obtain⟨il,rfl,_⟩:=hx;simp only[dH]at h;exact(eW (k:=l) h hl).imp fun t' ht=>⟨by simpa [exitTo]using ht.1,ht.2⟩
  |rf _ _=>obtain⟨il,rfl,_⟩:=hx;simp only[dH]at h;exact(eW (k:=l) h hl).imp fun t' ht=>⟨by simpa [exitTo]using ht.1,ht.2⟩
  |erf _ _=>obtain⟨il,rfl,_⟩:=hx;simp only[dH]at h;exact(eW (k:=l) h hl).imp fun t' ht=>⟨by simpa [exitTo]using ht.1,ht.2⟩
theorem bW{id:Nat}:∀{k:List KI}{t:List Item},dH id k=none→KIs c k t→exitTo id t=none
 |[],t,_,h=>by have h:t=[]:=h;subst h;rfl
 |x::l,t,h,⟨it,t1,e,hx,hl⟩=>by
  subst e
  cases x with
  |blk id'=>
   simp only[dH]at h;have hx:it=.inBlock id':=hx;subst hx
   cases hb:Nat.beq id' id with
   |true=>rw[hb]at h;cases h
   |false=>
    rw[hb]at h;have hne:(id'==id)=false:=by rw[beq_eq_false_iff_ne];intro e;rw[e]at hb;simp at hb
    simp only[exitTo,hne];exact bW (k:=l) h hl
  |code _=>have hx:it=_:=hx;subst hx;simp only[dH]at h;simpa [exitTo]using bW (k:=l) h hl
  |loop _=>have hx:it=_:=hx;subst hx;simp only[dH]at h;simpa [exitTo]using bW (k:=l) h hl
  |scope _=>have hx:it=_:=hx;subst hx;simp only[dH]at h;simpa [exitTo]using bW (k:=l) h hl
  |br=>have hx:it=_:=hx;subst hx;simp only[dH]at h;simpa [exitTo]using bW (k:=l) h hl
  |reg _ _=>obtain⟨il,rfl,_⟩:=hx;simp only[dH]at h;simpa [exitTo]using bW (k:=l) h hl
  |rf _ _=>obtain⟨il,rfl,_⟩:=hx;simp only[dH]at h;simpa [exitTo]using bW (k:=l) h hl
  |erf _ _=>obtain⟨il,rfl,_⟩:=hx;simp only[dH]at h;simpa [exitTo]using bW (k:=l) h hl
theorem fc{l:Nat}:∀{k k':List KI}{t:List Item},dF l k=some k'→KIs c k t→∃t',gotoIn l t=some t'∧KIs c k' t'
 |[],_,_,h,_=>by simp[dF]at h
 |x::r,k',t,h,⟨it,t1,e,hx,hl⟩=>by
  subst e
  cases x with
  |scope body=>
   simp only[dF]at h;have hx:it=.inScope body:=hx;subst hx
   split at h
   ·rename_i rest hr
    cases h;exact⟨.code rest :: .inScope body::t1,by simp[gotoIn,hr],⟨_,_,rfl,rfl,_,_,rfl,rfl,hl⟩⟩
   ·rename_i hr;obtain⟨t',h1,h2⟩:=fc (k:=r) h hl;exact⟨t',by simp only[gotoIn,hr];exact h1,h2⟩
  |code _=>have hx:it=_:=hx;subst hx;simp only[dF]at h;exact(fc (k:=r) h hl).imp fun t' ht=>⟨by simpa [gotoIn]using ht.1,ht.2⟩
  |loop _=>have hx:it=_:=hx;subst hx;simp only[dF]at h;exact(fc (k:=r) h hl).imp fun t' ht=>⟨by simpa [gotoIn]using ht.1,ht.2⟩
  |blk _=>have hx:it=_:=hx;subst hx;simp only[dF]at h;exact(fc (k:=r) h hl).imp fun t' ht=>⟨by simpa [gotoIn]using ht.1,ht.2⟩
  |br=>have hx:it=_:=hx;subst hx;simp only[dF]at h;exact(fc (k:=r) h hl).imp fun t' ht=>⟨by simpa [gotoIn]using ht.1,ht.2⟩
  |reg _ _=>obtain⟨il,rfl,_⟩:=hx;simp only[dF]at h;exact(fc (k:=r) h hl).imp fun t' ht=>⟨by simpa [gotoIn]using ht.1,ht.2⟩
  |rf _ _=>obtain⟨il,rfl,_⟩:=hx;simp only[dF]at h;exact(fc (k:=r) h hl).imp fun t' ht=>⟨by simpa [gotoIn]using ht.1,ht.2⟩
  |erf _ _=>obtain⟨il,rfl,_⟩:=hx;simp only[dF]at h;exact(fc (k:=r) h hl).imp fun t' ht=>⟨by simpa [gotoIn]using ht.1,ht.2⟩
theorem bS{l:Nat}:∀{k:List KI}{t:List Item},dF l k=none→KIs c k t→gotoIn l t=none
 |[],t,_,h=>by have h:t=[]:=h;subst h;rfl
 |x::r,t,h,⟨it,t1,e,hx,hl⟩=>by
  subst e
  cases x with
  |scope body=>
   simp only[dF]at h;have hx:it=.inScope body:=hx;subst hx
   split at h
   ·cases h
   ·rename_i hr;simp only[gotoIn,hr];exact bS (k:=r) h hl
  |code _=>have hx:it=_:=hx;subst hx;simp only[dF]at h;simpa [gotoIn]using bS (k:=r) h hl
  |loop _=>have hx:it=_:=hx;subst hx;simp only[dF]at h;simpa [gotoIn]using bS (k:=r) h hl
  |blk _=>have hx:it=_:=hx;subst hx;simp only[dF]at h;simpa [gotoIn]using bS (k:=r) h hl
  |br=>have hx:it=_:=hx;subst hx;simp only[dF]at h;simpa [gotoIn]using bS (k:=r) h hl
  |reg _ _=>obtain⟨il,rfl,_⟩:=hx;simp only[dF]at h;simpa [gotoIn]using bS (k:=r) h hl
  |rf _ _=>obtain⟨il,rfl,_⟩:=hx;simp only[dF]at h;simpa [gotoIn]using bS (k:=r) h hl
  |erf _ _=>obtain⟨il,rfl,_⟩:=hx;simp only[dF]at h;simpa [gotoIn]using bS (k:=r) h hl
end
structure Rl(W:Bs)(f0:Nat)(g:Cfg)(c:Cf)(O:Nat→Nat→Prop)(fr:Frame)(frs:List Frame)(w:World):Prop where
 top:sy c g.top fr
 cs:Fms c g.cs frs
 hp:Hp c O (lk g.h) w
 old:Old W c O w
 bot:eG g.top g.cs=f0
abbrev tZ:=D→List (Nat×B)→Prop
def eL(P:Program)(W:Bs)(cs0:List Frame)(f0:Nat)(r:tZ)(m:Machine):Prop:=
 (∃v w' fr d h c' O',Steps P m (lone fr cs0 w')∧fr.fn=f0∧fr.leaving P w' (.returned v)∧r d h∧D.rep c' d v∧Hp c' O' (lk h) w'∧Old W c' O' w'∧okR d=true)∨
 ∃q w' h c' O',(∀fr1 cs1,cs0=fr1::cs1→Steps P m (lone (fr1.finish (.bool q)) cs1 w'))∧r (.mcl 0 [] [Bo q]) h∧Hp c' O' (lk h) w'∧Old W c' O' w'
theorem eL.of_steps{P:Program}{W:Bs}{cs0:List Frame}{f0:Nat}{r:tZ}{m m':Machine}(h:Steps P m m'):eL P W cs0 f0 r m'→eL P W cs0 f0 r m
 |.inl ⟨v,w',fr,d,hh,c',O',h1,h2⟩=>.inl ⟨v,w',fr,d,hh,c',O',h.trans h1,h2⟩
 |.inr ⟨q,w',hh,c',O',h1,h2⟩=>.inr ⟨q,w',hh,c',O',fun a b e=>h.trans (h1 a b e),h2⟩
theorem eL.fn{P:Program}{W:Bs}{cs0:List Frame}{f0:Nat}{r:tZ}{m:Machine}(hr:∀q h,¬r (.mcl 0 [] [Bo q]) h):eL P W cs0 f0 r m→∃v w' fr d h c' O',Steps P m (lone fr cs0 w')∧fr.fn=f0∧fr.leaving P w' (.returned v)∧r d h∧D.rep c' d v∧Hp c' O' (lk h) w'∧Old W c' O' w'
 |.inl ⟨v,w',fr,d,h,c',O',h1,h2,h3,h4,h5,h6,h7,_⟩=>⟨v,w',fr,d,h,c',O',h1,h2,h3,h4,h5,h6,h7⟩
 |.inr ⟨q,_,h,_,_,_,h2,_⟩=>(hr q h h2).elim
theorem eL.rd{P:Program}{W:Bs}{cs0:List Frame}{f0:Nat}{r:tZ}{m:Machine}(hr:∀d h,okR d=true→¬r d h):eL P W cs0 f0 r m→∃q w' h c' O',(∀fr1 cs1,cs0=fr1::cs1→Steps P m (lone (fr1.finish (.bool q)) cs1 w'))∧r (.mcl 0 [] [Bo q]) h∧Hp c' O' (lk h) w'∧Old W c' O' w'
 |.inl ⟨v,w',fr,d,h,c',O',h1,h2,h3,h4,h5,h6,h7,h8⟩=>(hr d h h8 h4).elim
 |.inr h=>h
def Snd(P:Program)(W:Bs)(cs0:List Frame)(f0:Nat)(r:tZ)(g:Cfg):Prop:=
 ∀c O fr frs w,Rl W f0 g c O fr frs w→eL P W cs0 f0 r (lone fr (frs++cs0) w)
def MU(P:Program)(E:TE)(bt u8 kind:Nat)(f:FuncId):Prop:=∀(t:Nat) (η:Env) (l:List D) (d:D) (rd:List Nat) (e:List (Nat×B)),bdX E bt u8 kind t η l=some (d,rd,e)→∀(W:Bs) (c:Cf) (O:Nat→Nat→Prop) (w:World) (vs:List Value),Hp c O η w→Old W c O w→D.ah c l vs→
 CF P f∧Calls P f vs.toArray w (fun e' w'=>∃v,e'=.returned v∧Res W η c (Is3 d rd e) v w')
structure iP(P:Program)(X:Tx):Prop where
 E:∀t i,X.E t=some i→TOk P t i
 fi:∀f i,X.fi f=some i→CF P f∧∃fn,P.funcs[f]?=some fn∧fn.body=some i.body∧fn.ntmps=i.N∧fn.results.toList=i.rs
 mixed:P.follows .mixedOrders=true
 deep:2≤P.depth
 Q:∀t,X.Q t=true→FEq P t
 bd:∀f k,X.bd f=k+1→MU P X.E (X.bt f) X.u8 (k+1) f
theorem AJ{t:Nat}{η η':Env}{b:Nat}{d:D}{rows:List (List F)}{b2 v2:Nat}{rd:List Nat}(h:Hq t η b d=some (rows,b2,v2,rd))(hη:∀i∈rd,η' i=η i):Hq t η' b d=some (rows,b2,v2,rd):=by
 unfold Hq at h ⊢
 split at h
 ·cases h;rw[cM (hη _ (by simp))]
 ·rename_i b3 v
  split at h
  ·rename_i v' e sz rows' hb
   cases hv:(Nat.beq v v'&&Nat.beq sz 1 && !Nat.beq b b3)with
   |false=>rw[hv]at h;cases h
   |true=>
    rw[hv]at h;simp only[cond_true]at h
    cases h;rw[hη _ (by simp),hb];simp only[hv,cond_true]
  ·cases h
 ·cases h
theorem AG{bt u8 kind t:Nat}{η η':Env}{l:List D}{d:D}{rd:List Nat}{e:List (Nat×B)}(h:I8 bt u8 kind t η l=some (d,rd,e))(hη:∀i∈rd,η' i=η i):I8 bt u8 kind t η' l=some (d,rd,e):=by
 have wh:∀{b:Bool}{x:Ot}{y:D×List Nat×List (Nat×B)},vh b x=some y→b=true∧x=some y:=by
  intro b x y h
  cases b with
  |true=>exact⟨rfl,h⟩
  |false=>cases h
 unfold I8 at h ⊢
 split at h
 ·rename_i b v l
  split at h
  ·rename_i v' ty ad sl hb;obtain⟨h1,h⟩:=wh h
   split at h
   ·rename_i rows b2 v2 rd2 hbuf
    split at h
    ·rename_i bs hbs;have key:∀{rd':List Nat},rd'=b::rd2→(∀i∈rd',η' i=η i)→η' b=η b∧Hq t η' b sl=some (rows,b2,v2,rd2):=by
      intro rd' e hη;subst e;exact⟨hη b (by simp),AJ hbuf (fun i hi=>hη i (by simp[hi]))⟩
     have fin:rd=b::rd2:=by
      split at h
      ·obtain⟨_,h⟩:=wh h;obtain⟨_,h⟩:=wh h
       cases h;rfl
      ·obtain⟨_,h⟩:=wh h
       cases h;rfl
      ·cases h;rfl
      ·cases h
     obtain⟨k1,k2⟩:=key fin hη;rw[k1,hb];simp only[k2,hbs,h1];exact h
    ·cases h
   ·cases h
  ·cases h
 ·cases h
theorem tg{η η':Env}{d:D}{news:List (List F)}{rd:List Nat}(h:pZ η d=some (news,rd))(hη:∀b∈rd,η' b=η b):pZ η' d=some (news,rd):=by
 unfold pZ at h ⊢
 split at h
 ·rename_i b v sz lo hi ex
  split at h
  ·rename_i v' e sz' rows hb
   cases hv:(Nat.beq v v'&&Nat.beq sz sz')with
   |false=>rw[hv]at h;cases h
   |true=>
    rw[hv]at h;simp only[cond_true]at h
    cases h;rw[hη _ (by simp),hb];simp only[hv,cond_true]
  ·cases h
 ·exact h
 ·exact jx h hη
theorem DG{E:TE}{bt u8 kind t:Nat}{η η':Env}{l:List D}{d:D}{rd:List Nat}{e:List (Nat×B)}(h:bdX E bt u8 kind t η l=some (d,rd,e))(hη:∀i∈rd,η' i=η i):bdX E bt u8 kind t η' l=some (d,rd,e):=by
 unfold bdX at h ⊢
 split at h
 ·split at h
  ·rename_i rd0 hs
   cases h;rw[tg hs hη]
  ·rename_i rows rd0 hne hs
   split at h
   ·rename_i he
    cases hc:(kV _ rows&&Nat.ble rows.length maxLen&&Nat.ble (rows.length*_) 140737488355328)with
    |false=>rw[hc]at h;cases h
    |true=>
     rw[hc]at h
     cases h;rw[tg hs (fun b hb=>hη b (by simp[hb]))]
     cases rows with
     |nil=>exact absurd rfl hne
     |cons r0 rs=>simp only[he,hc,cM (hη t (by simp)),vh,cond_true]
   ·cases h
  ·cases h
 ·exact AG h hη
structure cT(P:Program)(Γ:Nat→Option (List F))(η:Env)(f:FuncId)(l:List D)(d:D)(rd:List Nat)(e:List (Nat×B)):Prop where
 go:∀η',(∀b∈rd,η' b=η b)→∀(W:Bs) c O w vs,GOk Γ c→Hp c O η' w→Old W c O w→D.ah c l vs→CF P f∧Calls P f vs.toArray w (fun e' w'=>∃v,e'=.returned v∧Res W η' c (Is3 d rd e) v w')
structure LW(P:Program)(l:Nat)(args:Array Value)(w:World)(Q:Value→World→Prop):Prop where
 go:∃L,w.heap[l]?=some (.loop L)∧args.size=L.params.size∧∀fr1 cs,∃v w',Q v w'∧Steps P (lone ((bF L.fn (some l)).atR ⟨(L.params.zip args).foldl (fun t (p:Tmp×Value)=>t.setIfInBounds p.1 p.2) L.tmps,[]⟩ [.code L.assign,.beginRound,.code L.body]) (fr1::cs) w) (lone (fr1.finish v) cs w')
structure xO(P:Program)(Γ:Nat→Option (List F))(η:Env)(b v:Nat)(l:List D)(d:D)(rd:List Nat)(e:List (Nat×B)):Prop where
 go:∀η',(∀b∈rd,η' b=η b)→∀(W:Bs) c O w vs g,GOk Γ c→Hp c O η' w→Old W c O w→D.ah c l vs→At0 c b v g→LW P g vs.toArray w (fun u w'=>Res W η' c (Is3 d rd e) u w')
structure vU{R:Type}(P:Program)(X:Tx)(T:R→Prop)(O:Orc R):Prop where
 pu:∀f l k,T (O.pu f l k)→∃x:F×Bool,Pure P X.Γ f l x.1 x.2∧T (k x)
 he:∀t η f l k,T (O.he t η f l k)→∃d rd e,cT P X.Γ η f l d rd e∧T (k d rd e)
 ye:∀t η b v l k,T (O.ye t η b v l k)→∃d rd e,xO P X.Γ η b v l d rd e∧T (k d rd e)
def GD2(P:Program)(X:Tx):CG:=fun t η f l k=>((X.bd f=0∧GDr P X.Γ η f l k)∨(∃kd,X.bd f=kd+1∧∃d rd e,bdX X.E (X.bt f) X.u8 (kd+1) t η l=some (d,rd,e)∧k d rd e))∨(∃d rd e,cT P X.Γ η f l d rd e∧k d rd e)
theorem Res.to{W:Bs}{η:Env}{c:Cf}{k:Ks}{d:D}{rd:List Nat}{e:List (Nat×B)}{v:Value}{w:World}(h:Res W η c (Is3 d rd e) v w)(hk:k d rd e):Res W η c k v w:=by
 obtain⟨d',rd',e',c',O',⟨rfl,rfl,rfl⟩,h2⟩:=h;exact⟨_,_,_,c',O',hk,h2⟩
theorem Ee{P:Program}{X:Tx}(hX:iP P X):kB P X.Γ (GD2 P X):=by
 rintro t η f l k ((⟨_,h⟩|⟨kd,h1,d,rd,e,h2,hk⟩)|⟨d,rd,e,h2,hk⟩) W c O w vs g1 g2 g3 g4
 ·exact vo t η f l k h W c O w vs g1 g2 g3 g4
 ·obtain⟨q1,q2⟩:=hX.bd f kd h1 t η l d rd e h2 W c O w vs g2 g3 g4;exact⟨q1,q2.mono fun e w' ⟨v,h3,h4⟩=>⟨v,h3,Res.to h4 hk⟩⟩
 ·obtain⟨q1,q2⟩:=h2.go η (fun _ _=>rfl) W c O w vs g1 g2 g3 g4;exact⟨q1,q2.mono fun e w' ⟨v,h3,h4⟩=>⟨v,h3,Res.to h4 hk⟩⟩
theorem CE{P:Program}{X:Tx}:wR (GD2 P X):=by
 rintro t η f l k ((⟨h0,h⟩|⟨kd,h1,d,rd,e,h2,hk⟩)|⟨d,rd,e,h2,hk⟩)
 ·obtain⟨d,rd,e,q1,q2⟩:=C3 t η f l k h;exact⟨d,rd,e,q1,fun η' hη=>.inl (.inl ⟨h0,q2 η' hη⟩)⟩
 ·exact⟨d,rd,e,hk,fun η' hη=>.inl (.inr ⟨kd,h1,d,rd,e,DG h2 hη,rfl,rfl,rfl⟩)⟩
 ·exact⟨d,rd,e,hk,fun η' hη=>.inr ⟨d,rd,e,⟨fun η2 h3=>h2.go η2 (fun b hb=>(h3 b hb).trans (hη b hb))⟩,rfl,rfl,rfl⟩⟩
section
variable {P:Program}{f:Nat}{ro:Option Nat}{a:Act}{k:List Item}{cs:List Frame}{w:World}{ops:Array Oper}
theorem mq{ρ:Operand→Value}{o:Oper}{w w':World}{x:Next}(hr:(execOp ρ o).run P w=.ok x w')(hx:∀d,x≠.defer d):∀c,o.op≠.defer c:=by
 intro c e
 cases h:(resolve ρ c o.type).run P w<;>simp[execOp,e,h]at hr
 exact hx _ hr.1.symm
theorem fw{i:Nat}{rest:List Nat}{o:Oper}(ho:ops[i]?=some o)(v:Value):((bF f ro).atR a (.inRegion ops (i::rest)::k)).finish v=(bF f ro).atR (a.put o.dst v) (.inRegion ops rest::k):=by
 rw[Frame.finish_atR,ho];rfl
theorem uo{i:Nat}{rest:List Nat}{o:Oper}{w':World}{v:Value}(ho:ops[i]?=some o)(hw:Region.wanted o (yielded ops a.tmps)=true)(hr:(execOp a.eval o).run P w=.ok (.value v) w') :
  step P (lone ((bF f ro).atR a (.inRegion ops (i::rest)::k)) cs w)=.next (lone ((bF f ro).atR (a.put o.dst v) (.inRegion ops rest::k)) cs w'):=by
 have hg:=stepGR_op (P:=P) (b:=bF f ro) (k:=k) (cs:=cs) (w:=w) (rest:=rest) ho hw;rw[Oper.semAt_eq _ _ _ (mq hr (by simp))]at hg;refine step_lone_go ?_;rw[hg,←fw ho];simp[stepG.apply,hr]
theorem vR{i:Nat}{rest:List Nat}{o:Oper}{w':World}(ho:ops[i]?=some o)(hw:Region.wanted o (yielded ops a.tmps)=true)(hr:(execOp a.eval o).run P w=.ok .skip w') :
  step P (lone ((bF f ro).atR a (.inRegion ops (i::rest)::k)) cs w)=.next (lone ((bF f ro).atR (a.put o.dst undef) (.inRegion ops rest::k)) cs w'):=by
 have hg:=stepGR_op (P:=P) (b:=bF f ro) (k:=k) (cs:=cs) (w:=w) (rest:=rest) ho hw;rw[Oper.semAt_eq _ _ _ (mq hr (by simp))]at hg;refine step_lone_go ?_;rw[hg,←fw ho];simp[stepG.apply,hr]
theorem gQ{i:Nat}{rest:List Nat}{o:Oper}{w':World}{g:FuncId}{args:Array Value}(ho:ops[i]?=some o)(hw:Region.wanted o (yielded ops a.tmps)=true)(hr:(execOp a.eval o).run P w=.ok (.enter g args) w') :
  step P (lone ((bF f ro).atR a (.inRegion ops (i::rest)::k)) cs w)=.next (lone (Frame.enter P g args .normal) ((bF f ro).atR a (.inRegion ops (i::rest)::k)::cs) w'):=by
 have hg:=stepGR_op (P:=P) (b:=bF f ro) (k:=k) (cs:=cs) (w:=w) (rest:=rest) ho hw;rw[Oper.semAt_eq _ _ _ (mq hr (by simp))]at hg;refine step_lone_go ?_;rw[hg];simp[stepG.apply,hr,Frame.atR]
theorem tt{i:Nat}{rest:List Nat}{o:Oper}{w':World}{l g:Nat}{tmps:Array Value}{asg body:Code}(ho:ops[i]?=some o)(hw:Region.wanted o (yielded ops a.tmps)=true)(hr:(execOp a.eval o).run P w=.ok (.round l g tmps asg body) w') :
  step P (lone ((bF f ro).atR a (.inRegion ops (i::rest)::k)) cs w)=.next (lone ((bF g (some l)).atR ⟨tmps,[]⟩ [.code asg,.beginRound,.code body]) ((bF f ro).atR a (.inRegion ops (i::rest)::k)::cs) w'):=by
 have hg:=stepGR_op (P:=P) (b:=bF f ro) (k:=k) (cs:=cs) (w:=w) (rest:=rest) ho hw;rw[Oper.semAt_eq _ _ _ (mq hr (by simp))]at hg;refine step_lone_go ?_;rw[hg];simp[stepG.apply,hr,Frame.atR,Frame.round,bF]
theorem pd{g:FuncId}{args:Array Value}{fn:Func}{cd:Code}(hf:P.funcs[g]?=some fn)(hb:fn.body=some cd) :
  Frame.enter P g args .normal=(bF g none).atR { tmps:=args++Array.replicate (fn.ntmps-args.size) undef,defers:=[] } [.code cd]:=by
 simp[Frame.enter,Frame.atR,hf,hb,bF]
theorem Bg{i:Nat}{rest:List Nat}{o:Oper}{F:Value→World→Prop}(ho:ops[i]?=some o)(hw:Region.wanted o (yielded ops a.tmps)=true)(hL:ax P o a w F) :
  ∃v w',F v w'∧Steps P (lone ((bF f ro).atR a (.inRegion ops (i::rest)::k)) cs w) (lone ((bF f ro).atR (a.put o.dst v) (.inRegion ops rest::k)) cs w'):=by
 unfold ax at hL
 split at hL
 ·rename_i v w' hr;exact⟨v,w',hL,.one (uo ho hw hr)⟩
 ·rename_i w' hr;exact⟨undef,w',hL,.one (vR ho hw hr)⟩
 ·rename_i g args w' hr;obtain⟨e,w2,fr',⟨v,rfl,hF⟩,hc,hfn,hl⟩:=hL ((bF f ro).atR a (.inRegion ops (i::rest)::k)::cs);refine⟨v,w2,hF,.head (gQ ho hw hr) (Steps.trans hc (.one ?_))⟩;rw[step_leave_returned hl,fw ho]
 ·exact hL.elim
theorem sK{N:Act→World→Prop}{Q:Exit→Act→World→Prop}(hnd:∀(i:Nat) (o:Oper),ops[i]?=some o→∀c,o.op≠.defer c)(hQ:∀e a w,Q e a w→e=.normal∧N a w):∀(l:List Nat) (a:Act) (w:World),wpOps P ops Q l a w→
  ∃a' w',N a' w'∧Steps P (lone ((bF f ro).atR a (.inRegion ops l::k)) cs w) (lone ((bF f ro).atR a' k) cs w')
 |[],a,w,h=>⟨a,w,(hQ _ _ _ h).2,.one stepR_region_end⟩
 |i::rest,a,w,h=>by
  have ih:=sK hnd hQ rest;simp only[wpOps]at h
  cases ho:ops[i]? with
  |none=>
   simp only[ho]at h;obtain⟨a',w',h1,h2⟩:=ih a w h;have hs:=stepR_op_skip (P:=P) (b:=bF f ro) (a:=a) (k:=k) (cs:=cs) (w:=w) (ops:=ops) (i:=i) (rest:=rest) (by simp[ho]);simp only[ho,Option.bind_none,Act.put]at hs;exact⟨a',w',h1,.head hs h2⟩
  |some o=>
   simp only[ho]at h
   by_cases hw:Region.wanted o (yielded ops a.tmps)=true
   ·simp only[hw,if_true]at h;rcases h with h|⟨_,a0,w0,hq⟩
    ·simp only[Oper.wp,Oper.upon]at h
     split at h
     ·rename_i v w' hr;obtain⟨a',w2,h1,h2⟩:=ih _ _ h;exact⟨a',w2,h1,.head (uo ho hw hr) h2⟩
     ·rename_i w' hr;obtain⟨a',w2,h1,h2⟩:=ih _ _ h;exact⟨a',w2,h1,.head (vR ho hw hr) h2⟩
     ·rename_i d w' hr;obtain⟨a',w2,h1,h2⟩:=ih _ _ h;refine⟨a',w2,h1,.head (step_lone_go ?_) h2⟩;have hg:=stepGR_op (P:=P) (b:=bF f ro) (k:=k) (cs:=cs) (w:=w) (rest:=rest) ho hw;rw[Oper.semAt_eq _ _ _ (hnd i o ho)]at hg;rw[hg]
      cases hdst:o.dst<;>simp[stepG.apply,hr,Frame.finish,Frame.atR,ho,Act.put,hdst]
     ·rename_i g args w' hr;obtain⟨e,w2,fr',he,hc,hfn,hl⟩:=h ((bF f ro).atR a (.inRegion ops (i::rest)::k)::cs)
      cases e with
      |returned v=>
       obtain⟨a',w3,h1,h2⟩:=ih _ _ he;refine⟨a',w3,h1,.head (gQ ho hw hr) (Steps.trans hc (.head ?_ h2))⟩;rw[step_leave_returned hl,fw ho]
      |panicked chain=>exact absurd (hQ _ _ _ he).1 (by intro h;cases h)
      |outgrown=>obtain⟨a0,w0,hq⟩:=he;exact absurd (hQ _ _ _ hq).1 (by intro h;cases h)
     ·rename_i row args w' hr;obtain⟨v,w2,he,hc⟩:=h ((bF f ro).atR a (.inRegion ops (i::rest)::k)) cs;obtain⟨a',w3,h1,h2⟩:=ih _ _ he;refine⟨a',w3,h1,.head (step_lone_go ?_) (Steps.trans hc (by rw[fw ho];exact h2))⟩;have hg:=stepGR_op (P:=P) (b:=bF f ro) (k:=k) (cs:=cs) (w:=w) (rest:=rest) ho hw;rw[Oper.semAt_eq _ _ _ (hnd i o ho)]at hg;rw[hg];simp[stepG.apply,hr,Frame.atR]
     ·rename_i v w' hr;exact absurd (hQ _ _ _ h).1 (by intro h;cases h)
     ·exact h.elim
    ·exact absurd (hQ _ _ _ hq).1 (by intro h;cases h)
   ·have hw':Region.wanted o (yielded ops a.tmps)=false:=by simpa using hw
    simp only[hw',Bool.false_eq_true,if_false]at h;obtain⟨a',w',h1,h2⟩:=ih _ _ h;have hs:=stepR_op_skip (P:=P) (b:=bF f ro) (a:=a) (k:=k) (cs:=cs) (w:=w) (ops:=ops) (i:=i) (rest:=rest) (by simp[ho,hw']);simp only[ho,Option.bind_some]at hs;exact⟨a',w',h1,.head hs h2⟩
end
end Go.Km
end
section
namespace Go.Vc
open Go Go.RowKit Go.Km
open Go.Sl hiding lk
section
variable {c:Cf}{N:Nat}{s:List (Nat×D)}
theorem bC.sl{a:Act}(h:bC c N s a.tmps):kS c ⟨N,a.defers⟩ s a:=⟨h.size,rfl,h.get⟩
theorem bC.put{a:Act}(h:bC c N s a.tmps){dst:Option Nat}(hd:dOk N dst=true){d:D}{v:Value}(hv:D.rep c d v):bC c N (mD s dst d) (a.put dst v).tmps:=by
 cases dst with
 |none=>exact h
 |some t=>
  have:=(h.sl).put (t:=t) (by exact hd) hv;exact⟨this.size,this.get⟩
theorem bC.NI{tmps:Array Value}(h:bC c N s tmps){j:Nat}{x:Value}(hj:lk s j=some (.fr (.vl x))):bC c N ((j,.fr (.vl x))::s) tmps:=by
 refine⟨h.size,fun k d hk=>?_⟩;rw[bU]at hk
 by_cases e:j=k
 ·subst e;rw[bf]at hk
  cases hk;exact h.get _ _ hj
 ·rw[aG e]at hk;exact h.get k d hk
end
end Go.Vc
namespace Go.Km
open Go Go.RowKit Go.Vc
open Go.Sl hiding lk
section
variable {c:Cf}{N:Nat}{s:List (Nat×D)}
theorem CK:∀(l:List D) (i j:Nat) (d:D),lk (j9 i l) j=some d→i≤j∧l[j-i]?=some d
 |[],_,_,_,h=>by simp[j9,lk]at h
 |x::l,i,j,d,h=>by
  simp only[j9,lk]at h
  cases hb:Nat.beq i j with
  |true=>
   rw[hb]at h;simp at h;have:i=j:=Nat.eq_of_beq_eq_true hb;subst this;simp[h]
  |false=>
   rw[hb]at h;obtain⟨h1,h2⟩:=CK l (i+1) j d h;refine⟨by omega,?_⟩;rw[show j-i=(j-(i+1))+1 by omega];simpa using h2
theorem jR{l:List D}{vs:List Value}(hvs:D.ah c l vs)(hN:Nat.ble l.length N=true):bC c N (j9 0 l) (vs.toArray++Array.replicate (N-vs.toArray.size) undef):=by
 have hlen:=D.aW hvs;have hle:=Nat.le_of_ble_eq_true hN;refine⟨by simp;omega,fun k d hk=>?_⟩;obtain⟨_,h2⟩:=CK l 0 k d hk;obtain⟨u,hu,hx⟩:=D.b5 hvs h2;simp only[Nat.sub_zero]at hu;have hlt:=(List.getElem?_eq_some_iff.1 hu).1;have e:(vs.toArray++Array.replicate (N-vs.toArray.size) undef).getD k undef=u:=by
  simp only[Array.getD_eq_getD_getElem?,Array.getElem?_append,List.getElem?_toArray,List.size_toArray,hlt,if_true,hu,Option.getD_some]
 rw[e];exact hx
theorem np:∀{ps:List Nat}{ds:List D}{vs:List Value}{s:List (Nat×D)}{tmps:Array Value},bC c N s tmps→D.ah c ds vs→ds.length=ps.length→(∀p∈ps,p<N)→
  bC c N (xV ps ds s) ((ps.zip vs).foldl (fun t (p:Nat×Value)=>t.setIfInBounds p.1 p.2) tmps)
 |[],ds,vs,s,tmps,hs,hd,hl,hp=>by simpa [xV]using hs
 |p::ps,[],vs,s,tmps,hs,hd,hl,hp=>by simp at hl
 |p::ps,d::ds,vs,s,tmps,hs,hd,hl,hp=>by
  unfold D.ah at hd;obtain⟨u,us,rfl,hu,hus⟩:=hd;simp only[xV,List.zip_cons_cons,List.foldl_cons];refine np (s:=(p,d)::s) ?_ hus (by simpa using hl) (fun q hq=>hp q (by simp[hq]));have:=bC.put (a:=⟨tmps,[]⟩) hs (dst:=some p) (d:=d) (v:=u) (by simp only[dOk];exact Nat.blt_eq.mpr (hp p (by simp))) hu;exact this
end
variable {P:Program}{X:Tx} (hX:iP P X) {W:Bs}{cs0:List Frame}{f0:Nat}{r:tZ} (hΓ:GOk X.Γ W.c)
variable {R:Type}{al:Al R}{T:R→Prop} (hb:uR al T) {K:Cfg→R} (hK:∀g,T (K g)→Snd P W cs0 f0 r g) {O:Orc R} (hO:vU P X T O)
section
variable {c:Cf}{Ow:Nat→Nat→Prop}{w:World}{f N nx:Nat}{s:List (Nat×D)}{k:List KI}{ds:List (Nat×Nat)}{gro:Option (Nat×Nat)}{gcs:List Fm}{gh:List (Nat×B)}
 {a:Act}{todo:List Item}{ro:Option Nat}{frs:List Frame}
include hK in
theorem kJ{g':Cfg}{m:Machine}{c':Cf}{O':Nat→Nat→Prop}{fr':Frame}{frs':List Frame}{w':World}(h:T (K g'))(hs:Steps P m (lone fr' (frs'++cs0) w'))(hr:Rl W f0 g' c' O' fr' frs' w'):eL P W cs0 f0 r m:=
 eL.of_steps hs (hK g' h _ _ _ _ _ hr)
theorem dA{f N N':Nat}{s s':List (Nat×D)}{k k':List KI}{ds ds':List (Nat×Nat)}{ro ro':Option (Nat×Nat)}{gcs:List Fm}:eG ⟨f,N,s,k,ds,ro⟩ gcs=eG ⟨f,N',s',k',ds',ro'⟩ gcs:=by
 cases gcs<;>rfl
include hK in
theorem o8 {k':List KI}{todo':List Item} (h:T (K ⟨⟨f,N,s,k',ds,gro⟩,gcs,gh,nx⟩))
  (hs:bC c N s a.tmps) (hm:bH c ds a.defers) (hro:jK c gro ro) (hcs:Fms c gcs frs) (hp:Hp c Ow (lk gh) w) (hold:Old W c Ow w) (hbot:eG ⟨f,N,s,k,ds,gro⟩ gcs=f0)
  (hk':KIs c k' todo') (hst:step P (lone ((bF f ro).atR a todo) (frs++cs0) w)=.next (lone ((bF f ro).atR a todo') (frs++cs0) w)):eL P W cs0 f0 r (lone ((bF f ro).atR a todo) (frs++cs0) w):=
 kJ hK h (.one hst) ⟨⟨a,todo',ro,rfl,hs,hk',hm,hro⟩,hcs,hp,hold,by rw[←hbot];exact dA⟩
theorem zo{ops:Array Oper}{o:Oper}{l:List Oper}{it:Item}(h:(KI.reg ops (o::l)).ok c it):∃i il,it=.inRegion ops (i::il)∧ops[i]?=some o∧(KI.reg ops l).ok c (.inRegion ops il):=by
 obtain⟨il,rfl,h⟩:=h
 cases il with
 |nil=>simp at h
 |cons i il=>
  simp only[List.map_cons,List.cons.injEq]at h;exact⟨i,il,rfl,h.1,il,rfl,h.2⟩
theorem Ka(ops:Array Oper):(KI.reg ops ops.toList).ok c (.inRegion ops (List.range ops.size)):=by
 refine⟨_,rfl,?_⟩;apply List.ext_getElem?;intro j
 by_cases hj:j<ops.size
 ·simp[hj,List.getElem?_range hj]
 ·rw[List.getElem?_eq_none (by simpa using hj),List.getElem?_eq_none (by simpa using hj)]
include hΓ in
theorem gok(hold:Old W c Ow w):GOk X.Γ c:=hΓ.ext hold.le
include hK in
theorem Fu {o:Oper}{ops:Array Oper}{l:List Oper}{i:Nat}{il:List Nat}{t':List Item} (hd:dOk N o.dst=true)
  (hs:bC c N s a.tmps) (hm:bH c ds a.defers) (hro:jK c gro ro) (hcs:Fms c gcs frs) (hp:Hp c Ow (lk gh) w) (hold:Old W c Ow w) (hbot:eG ⟨f,N,s,k,ds,gro⟩ gcs=f0)
  (ho:ops[i]?=some o) (hil:(KI.reg ops l).ok c (.inRegion ops il)) (hk:KIs c k t') (hw:Region.wanted o (yielded ops a.tmps)=true)
  (hL:ax P o a w (Res W (lk gh) c fun d rd e=>T (K ⟨⟨f,N,mD s o.dst d,.reg ops l::k,ds,gro⟩,gcs,e++gh,nx+1⟩))) :
  eL P W cs0 f0 r (lone ((bF f ro).atR a (.inRegion ops (i::il)::t')) (frs++cs0) w):=by
 obtain⟨v,w',⟨d,rd,e,c',O',h1,h2,h3,h4,h5⟩,hst⟩:=Bg (ro:=ro) (k:=t') (cs:=frs++cs0) (rest:=il) (f:=f) ho hw hL;refine kJ hK h1 hst ⟨⟨a.put o.dst v,_,ro,rfl,(hs.le h2).put hd h3,⟨_,t',rfl,hil.le h2,hk.le h2⟩,?_,hro.le h2⟩,hcs.le h2,by rw[s8];exact h4,h5,by rw[←hbot];exact dA⟩;have:(a.put o.dst v).defers=a.defers:=by cases o.dst<;>rfl
 rw[this];exact hm.le h2
include hb hK in
theorem nc {c1:Fm}{fr1:Frame}{d:D}{v:Value}{m:Machine} (h:T (jG al K c1 d gcs gh nx)) (hfm:sy c c1 fr1) (hd:D.rep c d v) (hcs:Fms c gcs frs) (hp:Hp c Ow (lk gh) w) (hold:Old W c Ow w) (hbot:eG c1 gcs=f0)
  (hst:Steps P m (lone (fr1.finish v) (frs++cs0) w)):eL P W cs0 f0 r m:=by
 obtain⟨a,todo,ro,rfl,hs,hk,hm,hro⟩:=hfm;unfold jG at h
 split at h
 ·rename_i ops o l k hk0;obtain⟨h1,hx⟩:=aB hb h;clear h;rw[hk0]at hk;obtain⟨it,t',rfl,hit,hk⟩:=hk;obtain⟨i,il,rfl,ho,hil⟩:=zo hit;rw[fw ho]at hst;refine kJ hK hx hst ⟨⟨a.put o.dst v,_,ro,rfl,hs.put h1 hd,⟨_,t',rfl,hil,hk⟩,?_,hro⟩,hcs,hp,hold,by rw[←hbot];exact dA⟩;have:(a.put o.dst v).defers=a.defers:=by cases o.dst<;>rfl
  rw[this];exact hm
 ·rename_i b v1 k hk0;rw[hk0]at hk;obtain⟨it,t',rfl,⟨g,rfl,hg⟩,hk⟩:=hk;rw[finish_atR_inRangeFunc]at hst;exact kJ hK h hst ⟨⟨a,_,ro,rfl,hs,⟨_,t',rfl,⟨g,rfl,hg⟩,hk⟩,hm,hro⟩,hcs,hp,hold,by rw[←hbot];exact dA⟩
 ·exact(hb.bot h).elim
include hΓ hO hK hX hb in
theorem pe {g:FuncId}{l:List D}{vs:List Value}{m:Machine}{fr1:Frame}{fm1:Fm}{frs1:List Frame}{gcs1:List Fm} (h:T (eP al X O K g l (fm1::gcs1) gh nx))
  (hvs:D.ah c l vs) (hfm:sy c fm1 fr1) (hcs:Fms c gcs1 frs1) (hp:Hp c Ow (lk gh) w) (hold:Old W c Ow w) (hbot:eG fm1 gcs1=f0)
  (hst:CF P g→Steps P m (lone (Frame.enter P g vs.toArray .normal) (fr1::(frs1++cs0)) w)):eL P W cs0 f0 r m:=by
 unfold eP at h
 cases hh:X.hp g with
 |true=>
  rw[hh]at h;obtain⟨d,rd,e,h2,hT⟩:=hO.he _ _ _ _ _ h;obtain⟨hcf,hcall⟩:=h2.go _ (fun _ _=>rfl) W c Ow w vs (gok hΓ hold) hp hold hvs;obtain⟨e',w',fr',⟨v,rfl,d',rd',e2,c',O',⟨rfl,rfl,rfl⟩,k2,k3,k4,k5⟩,kc,kf,kl⟩:=hcall (fr1::(frs1++cs0));refine nc hb hK hT (hfm.le k2) k3 (hcs.le k2) (by rw[s8];exact k4) k5 hbot ((hst hcf).trans (Steps.trans kc (.one ?_)));exact step_leave_returned kl
 |false=>
 rw[hh]at h;simp only[cond_false]at h
 split at h
 ·rename_i fi hfi;obtain⟨h1,h⟩:=aB hb h;obtain⟨hcf,fn,hfn,hbd,hN,hrs⟩:=hX.fi _ _ hfi;have hs:=hst hcf;rw[pd hfn hbd,hN]at hs;exact kJ hK (frs':=fr1::frs1) h hs ⟨⟨_,[.code fi.body],none,rfl,jR hvs h1,⟨_,_,rfl,rfl,rfl⟩,rfl,rfl⟩,⟨fr1,frs1,rfl,hfm,hcs⟩,hp,hold,hbot⟩
 ·exact(hb.bot h).elim
end
end Go.Km
end
section
namespace Go.Km
open Go Go.RowKit Go.Vc
open Go.Sl hiding lk
section
variable {P:Program}{X:Tx} (hX:iP P X) {W:Bs}{cs0:List Frame}{f0:Nat}{r:tZ} (hΓ:GOk X.Γ W.c)
variable {R:Type}{al:Al R}{T:R→Prop} (hb:uR al T) {K:Cfg→R} (hK:∀g,T (K g)→Snd P W cs0 f0 r g)
 {O:Orc R} (hO:vU P X T O) {fin:D→List (Nat×B)→R} (hfin:∀d h,T (fin d h)→r d h)
section
variable {c:Cf}{Ow:Nat→Nat→Prop}{w:World}{f N nx:Nat}{s:List (Nat×D)}{k:List KI}{ds:List (Nat×Nat)}{gro:Option (Nat×Nat)}{gcs:List Fm}{gh:List (Nat×B)}
 {a:Act}{todo:List Item}{ro:Option Nat}{frs:List Frame}
include hX hb hO in
theorem qs{t:Nat}{η:Env}{g:FuncId}{l:List D}{k:Kr R}(h:T (j7 al X O false t η g l k)):rJ P X.Γ η g l (fun d rd e=>T (k d rd e)):=by
 unfold j7 at h
 split at h
 ·obtain⟨d,rd,e,h2,hk⟩:=hO.he _ _ _ _ _ h;exact⟨fun W c O w vs g1 g2 g3 g4=>(h2.go η (fun _ _=>rfl) W c O w vs g1 g2 g3 g4).imp id fun q=>q.mono fun e w' ⟨v,h3,h4⟩=>⟨v,h3,Res.to h4 hk⟩⟩
 split at h
 ·rename_i kd hbd
  split at h
  ·rename_i d rd e he;refine⟨fun W c O w vs g1 g2 g3 g4=>?_⟩;obtain⟨q1,q2⟩:=hX.bd g kd hbd t η l d rd e he W c O w vs g2 g3 g4;exact⟨q1,q2.mono fun e w' ⟨v,h3,h4⟩=>⟨v,h3,Res.to h4 h⟩⟩
  ·exact(hb.bot h).elim
 ·split at h
  ·rename_i fl is hm;obtain⟨x,hp,h⟩:=hO.pu _ _ _ h
   cases hf:(x.1.flat||x.2)with
   |true=>rw[hf]at h;exact rJ.look hm hp (by simpa using hf) h
   |false=>rw[hf]at h;exact rJ.mM hm hp h
  ·exact(hb.bot h).elim
include hb hO in
theorem Hn{t:Nat}{η:Env}{g:FuncId}{l:List D}{k:Kr R}(h:T (j7 al X O true t η g l k)):GD2 P X t η g l (fun d rd e=>T (k d rd e)):=by
 unfold j7 at h
 split at h
 ·exact .inr (hO.he _ _ _ _ _ h)
 refine .inl ?_
 split at h
 ·rename_i kd hbd
  split at h
  ·rename_i d rd e he;exact .inr ⟨kd,hbd,d,rd,e,he,h⟩
  ·exact(hb.bot h).elim
 rename_i hbd;refine .inl ⟨hbd,?_⟩
 split at h
 ·rename_i fl is hm;obtain⟨x,hp,h⟩:=hO.pu _ _ _ h
  cases hf:(x.1.flat||x.2)with
  |true=>rw[hf]at h;exact GDr.mM hm hp (.inr (by simpa using hf)) h
  |false=>
   rw[hf]at h
   cases is with
   |nil=>exact GDr.mM hm hp (.inl rfl) h
   |cons i is=>exact(hb.bot h).elim
 ·exact(hb.bot h).elim
theorem lV(hs:bC c N s a.tmps)(hg:GOk X.Γ c){args:Array Operand}{l:List D}(hl:jb (args.toList.map (evD X.Γ s))=some l):D.ah c l (args.map a.eval).toList:=by
 have:=jP (a:=a) (c:=c) (fun x d hx=>lP (hs.sl) hg hx) hl;simpa using this
include hX hΓ hb hK hO in
theorem zu {o:Oper}{ops:Array Oper}{l:List Oper}{i:Nat}{il:List Nat}{t':List Item}{k0:List KI} (h:T (vO al X O K ⟨⟨f,N,s,k0,ds,gro⟩,gcs,gh,nx⟩ o ops l k))
  (hs:bC c N s a.tmps) (hm:bH c ds a.defers) (hro:jK c gro ro) (hcs:Fms c gcs frs) (hp:Hp c Ow (lk gh) w) (hold:Old W c Ow w) (hbot:eG ⟨f,N,s,k,ds,gro⟩ gcs=f0)
  (ho:ops[i]?=some o) (hil:(KI.reg ops l).ok c (.inRegion ops il)) (hk:KIs c k t') (hw:Region.wanted o (yielded ops a.tmps)=true) :
  eL P W cs0 f0 r (lone ((bF f ro).atR a (.inRegion ops (i::il)::t')) (frs++cs0) w):=by
 have hg:GOk X.Γ c:=gok hΓ hold;have hρ:∀x d,evD X.Γ s x=some d→D.rep c d (a.eval x):=fun x d hx=>lP hs.sl hg hx
 simp only[vO]at h;obtain⟨hd,h⟩:=aB hb h;have hil0:(KI.reg ops (o::l)).ok c (.inRegion ops (i::il)):=by
  obtain⟨il',e,h1⟩:=hil
  cases e;exact⟨_,rfl,by simp[ho,h1]⟩
 have hfm:sy c ⟨f,N,s,.reg ops (o::l)::k,ds,gro⟩ ((bF f ro).atR a (.inRegion ops (i::il)::t')):=
  ⟨a,_,ro,rfl,hs,⟨_,t',rfl,hil0,hk⟩,hm,hro⟩
 have hbot':eG ⟨f,N,s,.reg ops (o::l)::k,ds,gro⟩ gcs=f0:=by rw[←hbot];exact dA
 split at h
 ·rename_i x args tys hop;have viaG:∀{g:FuncId}{l1:List D},Vc.wpOp X.E (lk gh) nx (fun _=>rJ P X.Γ) (evD X.Γ s) o.op (fun d rd e=>T (K ⟨⟨f,N,mD s o.dst d,.reg ops l::k,ds,gro⟩,gcs,e++gh,nx+1⟩))→
    eL P W cs0 f0 r (lone ((bF f ro).atR a (.inRegion ops (i::il)::t')) (frs++cs0) w):=fun h=>
   Fu hK hd hs hm hro hcs hp hold hbot ho hil hk hw (Ky (n:=⟨N,a.defers⟩) hX.deep A9 hg hs.sl hX.E hp hold h)
  split at h
  ·rename_i g cs1 l1 hx hl;have hfv:=hρ x _ hx;unfold D.rep at hfv;obtain⟨vs,hfe,hvs⟩:=hfv;have hl1:=lV hs hg hl;generalize hpu:(X.hp g||Nat.blt 0 (X.bd g)||(X.pu g && !hH _))=q at h
   cases q with
   |true=>
    refine viaG (g:=g) (l1:=l1) ?_;rw[hop];simp only[Vc.wpOp,dY,hx,hl];exact qs hX hb hO h
   |false=>
    refine pe hX hΓ hb hK hO (vs:=(args.map a.eval).toList++vs) h (D.bw hl1 hvs) hfm hcs hp hold hbot' fun hcf=>.one ?_;have:=hcf.run (args.map a.eval++vs.toArray) w;refine gQ ho hw ?_;simp[execOp,hop,resolve,Deferred.ofValue,hfe,invoke,this,←Array.toList_map]
  ·rename_i g cs1 l1 hx hl;have hfv:=hρ x _ hx;unfold D.rep F.rep at hfv;obtain⟨vs,hfe,hvs⟩:=hfv;have hl1:=lV hs hg hl;generalize hpu:(X.hp g||Nat.blt 0 (X.bd g)||(X.pu g && !hH _))=q at h
   cases q with
   |true=>
    refine viaG (g:=g) (l1:=l1) ?_;rw[hop];simp only[Vc.wpOp,dY,hx,hl];exact qs hX hb hO h
   |false=>
    refine pe hX hΓ hb hK hO (vs:=(args.map a.eval).toList++vs) h (D.bw hl1 (iY hvs)) hfm hcs hp hold hbot' fun hcf=>.one ?_;have:=hcf.run (args.map a.eval++vs.toArray) w;refine gQ ho hw ?_;simp[execOp,hop,resolve,Deferred.ofValue,hfe,invoke,this,←Array.toList_map]
  ·rename_i g fs1 cs1 l1 hx hl;have hfv:=hρ x _ hx;unfold D.rep at hfv;obtain⟨us,vs,hfe,hus,hvs⟩:=hfv;have hl1:=lV hs hg hl;have hall:=D.bw (D.bw hus hl1) hvs;have hent:CF P g→(execOp a.eval o).run P w=.ok (.enter g (us++(args.map a.eval).toList++vs).toArray) w:=fun hcf=>by
    have:=hcf.run ((us.toArray++args.map a.eval)++vs.toArray) w;have e:(us++(args.map a.eval).toList++vs).toArray=(us.toArray++args.map a.eval)++vs.toArray:=by
     apply Array.ext';simp
    rw[e];rw[Array.append_assoc]at this ⊢;simp[execOp,hop,resolve,Deferred.ofValue,hfe,invoke,this]
   generalize hpu:(X.hp g||Nat.blt 0 (X.bd g)||(X.pu g && !hH _))=q at h
   cases q with
   |true=>
    obtain⟨hcf,hcall⟩:=(qs hX hb hO h).go W c Ow w _ hg hp hold hall;exact Fu hK hd hs hm hro hcs hp hold hbot ho hil hk hw (ax.xN (hent hcf) hcall)
   |false=>exact pe hX hΓ hb hK hO (vs:=us++(args.map a.eval).toList++vs) h hall hfm hcs hp hold hbot' fun hcf=>.one (gQ ho hw (hent hcf))
  ·rename_i b v l1 hx hl;have hfv:=hρ x _ hx;unfold D.rep at hfv;obtain⟨g,hgι,hfe⟩:=hfv;have hl1:=lV hs hg hl
   split at h
   ·rename_i v' L hlp;obtain⟨h1,hx1⟩:=aB hb h;clear h;simp only[Bool.and_eq_true]at h1;obtain⟨⟨h1,h2⟩,h3⟩:=h1;have h1:=Nat.eq_of_beq_eq_true h1;have h2:=Nat.eq_of_beq_eq_true h2;subst h1;rw[List.all_eq_true]at h3;obtain⟨g',L',gd,e1,e2,e3,e4,e5,e6,e7,e8,e9,e10,e11,e12⟩:=hp.pc b _ hlp;rw[hgι]at e1
    cases e1;have hsz:(args.map a.eval).size=L'.params.size:=by
     rw[e7];have:=D.aW hl1;simp at this ⊢;omega
    have hy:=run_yield (P:=P) (w:=w) e3 hsz;have hst:step P (lone ((bF f ro).atR a (.inRegion ops (i::il)::t')) (frs++cs0) w)=_:=tt (cs:=frs++cs0) (k:=t') (f:=f) (ro:=ro) (rest:=il) ho hw (by simp[execOp,hop,resolve,Deferred.ofValue,hfe,invoke];exact hy);rw[e6,e8,e9]at hst;refine kJ hK (frs':=_::frs) hx1 (.one hst) ⟨⟨⟨_,[]⟩,[.code L.asg,.beginRound,.code L.body],some g,rfl,?_,⟨_,_,rfl,rfl,_,_,rfl,rfl,_,_,rfl,rfl,rfl⟩,rfl,g,rfl,hgι⟩,⟨_,frs,rfl,hfm,hcs⟩,hp,hold,hbot'⟩;have hz:=np (N:=L.N) (ps:=L.ps) e10 hl1 (by rw[h2]) (fun p hp=>b6 (h3 p hp));simp only[e7];have e:∀(ps:List Nat) (vs:List Value) (t:Array Value),Array.foldl (fun tmps (x:Tmp×Value)=>tmps.setIfInBounds x.1 x.2) t (ps.toArray.zip vs.toArray)=(ps.zip vs).foldl (fun t (p:Nat×Value)=>t.setIfInBounds p.1 p.2) t:=by
     intro ps vs t;rw[←Array.foldl_toList,Array.toList_zip]
    have e':=e L.ps (args.map a.eval).toList L'.tmps;simp only[Array.toArray_toList]at e';show bC c L.N _ (Array.foldl (fun tmps (x:Tmp×Value)=>tmps.setIfInBounds x.1 x.2) L'.tmps (L.ps.toArray.zip (args.map a.eval)))
    rw[e'];exact hz
   ·rename_i v' A0 hab;obtain⟨h1,h⟩:=aB hb h;obtain⟨d,rd,e,hy,hT⟩:=hO.ye _ _ _ _ _ _ h;obtain⟨L,hL,hsz,hrun⟩:=(hy.go _ (fun _ _=>rfl) W c Ow w _ g hg hp hold hl1 hgι).go;have hy:=run_yield (P:=P) (w:=w) (args:=args.map a.eval) hL (by simpa using hsz);have hst:step P (lone ((bF f ro).atR a (.inRegion ops (i::il)::t')) (frs++cs0) w)=_:=tt (cs:=frs++cs0) (k:=t') (f:=f) (ro:=ro) (rest:=il) ho hw (by simp[execOp,hop,resolve,Deferred.ofValue,hfe,invoke];exact hy);obtain⟨u,w',⟨d',rd',e',c',O',⟨rfl,rfl,rfl⟩,k2,k3,k4,k5⟩,hst2⟩:=hrun ((bF f ro).atR a (.inRegion ops (i::il)::t')) (frs++cs0);rw[fw ho]at hst2;simp only[Array.toArray_toList]at hst2;refine kJ hK hT (.head hst hst2) ⟨⟨a.put o.dst u,_,ro,rfl,(hs.le k2).put hd k3,⟨_,t',rfl,hil.le k2,hk.le k2⟩,?_,hro.le k2⟩,hcs.le k2,by rw[s8];exact k4,k5,by rw[←hbot];exact dA⟩;have:(a.put o.dst u).defers=a.defers:=by cases o.dst<;>rfl
    rw[this];exact hm.le k2
   ·exact(hb.bot h).elim
  ·exact(hb.bot h).elim
 ·refine Fu (nx:=nx) hK hd hs hm hro hcs hp hold hbot ho hil hk hw (FP (G:=fun _ _ _ _ _=>False) (n:=⟨N,a.defers⟩) (t:=nx) hX.Q hX.deep (fun _ _ _ _ _ h=>h.elim) hg hs.sl hX.E hp hold ?_);exact KE hb (fun _ _ _ _ _ h=>(hb.bot h).elim) h
end
end
end Go.Km
end
