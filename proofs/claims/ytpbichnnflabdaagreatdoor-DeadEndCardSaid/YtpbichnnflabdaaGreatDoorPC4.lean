/- The texts that the card needs, part 5. -/
import Derived.Test.YtpbichnnflabdaaGreatDoorPC3
set_option linter.all false
section
namespace Go.Km
open Go Go.RowKit Go.Vc
open Go.Sl hiding lk
section
variable {P:Program}{c:Cf}{w:World}{Ow:Nat→Nat→Prop}{W:Bs}
theorem sg {h:List (Nat×B)}{b g:Nat}{o o':Obj}{x x':B} (hp:Hp c Ow (lk h) w) (hold:Old W c Ow w) (hx:lk h b=some x) (hv:x'.ver=x.ver) (hS:Ow b g) (hw:w.heap[g]?=some o)
  (hx':∀w',w'.heap[g]?=some o'→x'.on c b (Ow b) w'):∃O',Hp c O' (lk ((b,x')::h)) (w.putObj g o')∧Old W c O' (w.putObj g o'):=by
 have hlt:g<w.heap.size:=(Array.getElem?_eq_some_iff.1 hw).1;have hc:Chg w (w.putObj g o') (Ow b):=⟨rfl,rfl,rfl,by simp,fun j _ hn=>World.putObj_heap_other (fun e=>hn (by subst e;exact hS))⟩
 refine⟨_,hp.upd hc (fun j hj=>.inl hj) (Cf.le.refl c) rfl rfl (hp.cu hx hv) (hx' _ (World.putObj_heap_same hlt)),hold.upd hc (fun j hj=>.inl hj) rfl rfl⟩
theorem Er{f:Nat}{tmps:Array Value}{todo:List Item}{g:Nat}{ds:List Deferred}{cs:List Frame}{w':World}(h:(Instr.takeDeferred g).run P w=.ok [] w') :
  step P (lone { (bF f none).atR ⟨tmps,{ target:=.collected g,args:=#[] }::ds⟩ todo with mode:=.returning } cs w)=.next (lone { (bF f none).atR ⟨tmps,ds⟩ todo with mode:=.returning } cs w'):=
 step_lone_go (by simp[Go.stepG,Go.unwind,Frame.atR,bF,Sem.runT_eq,h,GStep.bare_after])
theorem GJ{f:Nat}{tmps:Array Value}{todo:List Item}{cs:List Frame}{h:List (Nat×B)}{b:Nat}{x:B}{ds:List Deferred}(hp:Hp c Ow (lk h) w)(hold:Old W c Ow w)(hb:lk h b=some x){gs:List Nat}(hn:gs.Nodup)(hg:∀g∈gs,Ow b g∧w.heap[g]?=some (.deferred (some []))) :
  ∃w' O',Hp c O' (lk ((b,.gone x.ver)::h)) w'∧Old W c O' w'∧Steps P (lone { (bF f none).atR ⟨tmps,gs.map (fun g=>{ target:=.collected g,args:=#[] })++ds⟩ todo with mode:=.returning } cs w) (lone { (bF f none).atR ⟨tmps,ds⟩ todo with mode:=.returning } cs w'):=by
 have key:∀(gs:List Nat) (w:World),gs.Nodup→(∀g∈gs,Ow b g∧w.heap[g]?=some (.deferred (some [])))→∃w',Chg w w' (Ow b)∧Steps P (lone { (bF f none).atR ⟨tmps,gs.map (fun g=>{ target:=.collected g,args:=#[] })++ds⟩ todo with mode:=.returning } cs w) (lone { (bF f none).atR ⟨tmps,ds⟩ todo with mode:=.returning } cs w'):=by
  intro gs
  induction gs with
  |nil=>exact fun w _ _=>⟨w,Chg.refl,Steps.refl _ _⟩
  |cons g gs ih=>
   intro w hn hg;obtain⟨h1,h2⟩:=hg g (by simp);have hlt:g<w.heap.size:=(Array.getElem?_eq_some_iff.1 h2).1;have hc:Chg w (w.putObj g (.deferred none)) (Ow b):=⟨rfl,rfl,rfl,by simp,fun j _ hn=>World.putObj_heap_other (fun e=>hn (by subst e;exact h1))⟩
   obtain⟨w',k1,k2⟩:=ih (w.putObj g (.deferred none)) (List.nodup_cons.1 hn).2 fun g' hg'=>⟨(hg g' (by simp[hg'])).1,by
    have hne:g≠g':=fun e=>(List.nodup_cons.1 hn).1 (by rw[e];exact hg')
    rw[World.putObj_heap_other (Ne.symm hne)];exact(hg g' (by simp[hg'])).2⟩
   exact⟨w',⟨k1.os.trans hc.os,k1.tape.trans hc.tape,k1.output.trans hc.output,Nat.le_trans hc.size k1.size,fun j hj hn=>(k1.block j (Nat.lt_of_lt_of_le hj hc.size) hn).trans (hc.block j hj hn)⟩,.head (Er (run_takeDeferred h2)) k2⟩
 obtain⟨w',hc,hs⟩:=key gs w hn hg;exact⟨w',_,hp.upd hc (fun j hj=>.inl hj) (Cf.le.refl c) rfl rfl (hp.cu hb rfl) (x':=.gone x.ver) (S':=Ow b) trivial,hold.upd hc (fun j hj=>.inl hj) rfl rfl,hs⟩
theorem tJ{f:Nat}{tmps:Array Value}{todo:List Item}{cs:List Frame}:∀{l:List (Nat×Nat)}{h h':List (Nat×B)}{ds:List Deferred}{w:World}{Ow:Nat→Nat→Prop},td l h=some h'→bH c l ds→Hp c Ow (lk h) w→Old W c Ow w→
  ∃w' O',Hp c O' (lk h') w'∧Old W c O' w'∧Steps P (lone { (bF f none).atR ⟨tmps,ds⟩ todo with mode:=.returning } cs w) (lone { (bF f none).atR ⟨tmps,[]⟩ todo with mode:=.returning } cs w')
 |[],h,h',ds,w,Ow,ht,hm,hp,hold=>by
  have hm:ds=[]:=hm;subst hm;simp[td]at ht;subst ht;exact⟨w,Ow,hp,hold,Steps.refl _ _⟩
 |(b,v)::l,h,h',ds,w,Ow,ht,⟨gs,ds',e,hg,hm⟩,hp,hold=>by
  subst e;simp only[td]at ht
  split at ht
  ·rename_i v' hb
   cases hv:Nat.beq v v' with
   |false=>rw[hv]at ht;cases ht
   |true=>
    rw[hv]at ht;simp only[cond_true]at ht;have:=Nat.eq_of_beq_eq_true hv;subst this;obtain⟨gs',h1,h2,h3⟩:=hp.pc b _ hb;have:=AtM.eq hg h1;subst this;obtain⟨w1,O1,p1,p2,p3⟩:=GJ (P:=P) (f:=f) (tmps:=tmps) (todo:=todo) (cs:=cs) (ds:=ds') hp hold hb h2 h3;obtain⟨w2,O2,q1,q2,q3⟩:=tJ (f:=f) (tmps:=tmps) (todo:=todo) (cs:=cs) ht hm p1 p2;exact⟨w2,O2,q1,q2,p3.trans q3⟩
  ·cases ht
end
section
variable {c:Cf}{w:World}{O:Nat→Nat→Prop}{η:Env}
theorem nT{Z Z':Nat→Prop}{w w':World}:∀{l:List (List F)}{us:List (List Value)},l.all F.flat.lu=true→F.aI Z w l us→F.aI Z' w' l us
 |[],us,_,h=>by unfold F.aI at h ⊢;exact h
 |x::l,us,hf,h=>by
  unfold F.aI at h ⊢;simp only[List.all_cons,Bool.and_eq_true]at hf;obtain⟨u,us',h1,h2,h3⟩:=h;exact⟨u,us',h1,jq x u hf.1 h2,nT hf.2 h3⟩
theorem Gy{p:List F→Bool}{rows:List (List F)}(h:rows.all p=true)(lo hi:Nat):((rows.take hi).drop lo).all p=true:=by
 rw[List.all_eq_true]at h ⊢;exact fun r hr=>h r (List.mem_of_mem_take (List.mem_of_mem_drop hr))
theorem vG(hp:Hp c O η w)(ids:List Nat):∀(m:Nat) (d:D) (x:F) (is:List Nat) (u:Value),D.toF η m d=some (x,is)→(∀b∈is,b∈ids)→cN η d=true→D.rep c d u→F.rep (fun g=>∃b,b∈ids∧O b g) w x u
 |0,d,x,is,u,h,_,_,_=>by simp[D.toF]at h
 |m+1,d,x,is,u,h,hi,hf,hr=>by
  have ih:=vG hp ids m;have many:∀(l:List D) (fl:List F) (is:List Nat) (us:List Value),cB (D.toF η m) l=some (fl,is)→(∀b∈is,b∈ids)→lK η l=true→D.ah c l us→F.ah (fun g=>∃b,b∈ids∧O b g) w fl us:=by
   intro l
   induction l with
   |nil=>
    intro fl is us h1 h2 h3 h4;simp[cB]at h1;unfold D.ah at h4;rw[h1.1,h4];simp[F.ah]
   |cons y l ihl=>
    intro fl is us h1 h2 h3 h4;simp only[cB]at h1;simp only[lK,Bool.and_eq_true]at h3;unfold D.ah at h4;obtain⟨u,us',rfl,h5,h6⟩:=h4
    split at h1
    ·rename_i yf i ys is' e1 e2
     cases h1;unfold F.ah;exact⟨u,us',rfl,ih y yf i u e1 (fun b hb=>h2 b (by simp[hb])) h3.1 h5,ihl ys is' us' e2 (fun b hb=>h2 b (by simp[hb])) h3.2 h6⟩
    ·cases h1
  cases d with
  |fr y=>
   simp only[D.toF,Option.some.injEq,Prod.mk.injEq]at h;rw[←h.1];unfold D.rep at hr;have hfl:y.flat=true:=by simpa [cN]using hf
   exact F.Bb (s6 y u hfl hr)
  |ag l=>
   simp only[D.toF]at h
   split at h
   ·rename_i fl is' e1
    cases h;unfold D.rep at hr;obtain⟨vs,rfl,hvs⟩:=hr;unfold F.rep;exact⟨vs,rfl,many l fl is vs e1 hi (by simpa [cN]using hf) hvs⟩
   ·cases h
  |tp l=>
   simp only[D.toF]at h
   split at h
   ·rename_i fl is' e1
    cases h;unfold D.rep at hr;obtain⟨vs,rfl,hvs⟩:=hr;unfold F.rep;exact⟨vs,rfl,many l fl is vs e1 hi (by simpa [cN]using hf) hvs⟩
   ·cases h
  |cl f l=>
   simp only[D.toF]at h
   split at h
   ·rename_i fl is' e1
    cases h;unfold D.rep at hr;obtain⟨vs,rfl,hvs⟩:=hr;unfold F.rep;exact⟨vs,rfl,many l fl is vs e1 hi (by simpa [cN]using hf) hvs⟩
   ·cases h
  |own b v=>
   simp only[D.toF]at h;simp only[cN]at hf
   split at h
   ·rename_i v' e sz rows hb;rw[hb]at hf;simp only at hf
    cases hv:Nat.beq v v' with
    |false=>simp[hv]at h
    |true=>
     simp only[hv,cond_true]at h;have hv':=Nat.eq_of_beq_eq_true hv;subst hv'
     cases h;unfold D.rep at hr;obtain⟨A,m',k',hA,rfl⟩:=hr;obtain⟨A',k2,vr,hA',hvr,hone,hown⟩:=hp.pc b _ hb;rw[hA]at hA'
     cases hA';unfold F.rep;exact⟨A,k',vr,sz,rfl,so hown,(own.arr hown).mono (fun g hg=>⟨b,hi b (by simp),hg⟩),hone,nT hf hvr⟩
   ·cases h
  |sub b v sz lo hi' ex=>
   simp only[D.toF]at h;simp only[cN]at hf
   split at h
   ·rename_i v' e sz' rows hb;rw[hb]at hf;simp only at hf
    cases hv:(Nat.beq v v'&&Nat.beq sz sz')with
    |false=>simp[hv]at h
    |true=>
     simp only[hv,cond_true]at h;rw[Bool.and_eq_true]at hv;have hv':=Nat.eq_of_beq_eq_true hv.1;have hs':=Nat.eq_of_beq_eq_true hv.2;subst hv';subst hs'
     cases h;unfold D.rep at hr;obtain⟨A,m',k',hA,h1,h2,h3,A2,rfl,hA2⟩:=hr;obtain⟨A',k2,vr,hA',hvr,hone,hown⟩:=hp.pc b _ hb;rw[hA]at hA'
     cases hA';have harr:Arr sz (fun g=>∃b,b∈ids∧O b g) w A rows.length vr:=(own.arr hown).mono (fun g hg=>⟨b,hi b (by simp),hg⟩);have harr':=Arr.uZ (A':=A2) harr h1 h2 (fun hlt=>hA2 (.inr (by cases ex<;>simp<;>omega)));unfold F.rep;have hl:((rows.take hi').drop lo).length=hi'-lo:=by rw[List.length_drop,List.length_take,Nat.min_eq_left h2]
     refine⟨_,_,(vr.take hi').drop lo,sz,by rw[hl],?_,by rw[hl];exact harr',fun r hr=>hone r (List.mem_of_mem_take (List.mem_of_mem_drop hr)),nT (Gy hf _ _) (F.dn _ (F.cH _ hvr))⟩;rw[hl]
     cases ex<;>simp<;>omega
   ·cases h
  |ptr b v o=>simp[cN]at hf
  |rp b v sz i o=>simp[cN]at hf
  |mv b v=>simp[cN]at hf
  |yl b v=>simp[cN]at hf
  |fx rows=>simp[cN]at hf
  |mcl f fs cs=>simp[cN]at hf
end
section
variable {P:Program}{X:Tx} (hX:iP P X) {W:Bs}{cs0:List Frame}{f0:Nat}{r:tZ} (hΓ:GOk X.Γ W.c)
variable {R:Type}{al:Al R}{T:R→Prop} (hb:uR al T) {K:Cfg→R} (hK:∀g,T (K g)→Snd P W cs0 f0 r g)
 {O:Orc R} (hO:vU P X T O) {fin:D→List (Nat×B)→R} (hfin:∀d h,T (fin d h)→r d h)
section
variable {c:Cf}{Ow:Nat→Nat→Prop}{w:World}{f N nx:Nat}{s:List (Nat×D)}{k:List KI}{ds:List (Nat×Nat)}{gro:Option (Nat×Nat)}{gcs:List Fm}{gh:List (Nat×B)}
 {a:Act}{todo:List Item}{ro:Option Nat}{frs:List Frame}
include hX hb hK hfin in
theorem Cq {m:Machine} (h:T (ED al X fin K ⟨⟨f,N,s,k,ds,gro⟩,gcs,gh,nx⟩)) (hs:bC c N s a.tmps) (hm:bH c ds a.defers) (hcs:Fms c gcs frs) (hp:Hp c Ow (lk gh) w) (hold:Old W c Ow w) (hbot:eG ⟨f,N,s,k,ds,gro⟩ gcs=f0)
  (hst:Steps P m (lone { (bF f none).atR a todo with mode:=.returning } (frs++cs0) w)):eL P W cs0 f0 r m:=by
 unfold ED at h
 split at h
 ·rename_i fi h1 hfi ht
  split at h
  ·rename_i dl hdl;obtain⟨w1,O1,hp1,hold1,hst1⟩:=tJ (P:=P) (f:=f) (tmps:=a.tmps) (todo:=todo) (cs:=frs++cs0) ht hm hp hold;obtain⟨_,fn,hfn,hbd,hN,hrs⟩:=hX.fi _ _ hfi;have hXc:XOk P ⟨X.Q,0,X.E,X.Γ,fun _ _ _ _ _=>False,fun _=>GDr P X.Γ,N⟩:=⟨hX.E,(fun _ _ _ _ _ h=>h.elim),vo,C3,hX.mixed,hX.deep,hX.Q⟩
   have hIs:Is W ⟨N,[]⟩ ⟨s,h1⟩ ⟨a.tmps,[]⟩ w1 c O1:=⟨(bC.sl (a:=⟨a.tmps,[]⟩) hs),hp1,hold1⟩
   obtain⟨us,hu1,hu2⟩:=vq hXc hIs hdl;have hu3:=I4 hu2;have hres:(results fn a.tmps).run P w1=.ok (qn us) w1:=by
    rw[tC,show fn.results=fn.results.toList.toArray by simp,Sem.run_bind,List.mapM_toArray,Sem.run_map,hrs,hu1];simp only[Result.andThen_ok,Sem.run_pure]
    match us with
    |[]=>simp[qn]
    |[u]=>simp[qn]
    |u::u'::l=>simp[qn]
   have hleave:Frame.leaving P { (bF f none).atR ⟨a.tmps,[]⟩ todo with mode:=.returning } w1 (.returned (qn us)):=⟨rfl,rfl,rfl,fn,hfn,hres⟩
   cases gcs with
   |nil=>
    have hcs:frs=[]:=hcs;subst hcs;simp only at h;obtain⟨hok,h⟩:=aB hb h;exact .inl ⟨qn us,w1,_,oK dl,h1,c,O1,hst.trans hst1,hbot,hleave,hfin _ _ h,hu3,hp1,hold1,hok⟩
   |cons c1 cs1=>
    simp only at h;obtain⟨fr1,frs1,rfl,hfm,hcs1⟩:=hcs;refine nc hb hK h hfm hu3 hcs1 hp1 hold1 hbot (hst.trans (hst1.trans (.one ?_)));exact step_leave_returned hleave
  ·exact(hb.bot h).elim
 ·exact(hb.bot h).elim
end
end
section
variable {P:Program}{X:Tx} (hX:iP P X) {W:Bs}{cs0:List Frame}{f0:Nat}{r:tZ} (hΓ:GOk X.Γ W.c)
variable {R:Type}{al:Al R}{T:R→Prop} (hb:uR al T) {K:Cfg→R} (hK:∀g,T (K g)→Snd P W cs0 f0 r g)
 {O:Orc R} (hO:vU P X T O) {fin:D→List (Nat×B)→R} (hfin:∀d h,T (fin d h)→r d h)
section
variable {c:Cf}{Ow:Nat→Nat→Prop}{w:World}{f N nx:Nat}{s:List (Nat×D)}{k:List KI}{ds:List (Nat×Nat)}{gro:Option (Nat×Nat)}{gcs:List Fm}{gh:List (Nat×B)}
 {a:Act}{todo:List Item}{ro:Option Nat}{frs:List Frame}
include hX hb hK hfin in
theorem l8 {j:Option Code} (h:T (kx al X fin K ⟨⟨f,N,s,k,ds,gro⟩,gcs,gh,nx⟩ j)) (hs:bC c N s a.tmps) (hm:bH c ds a.defers) (hro:jK c gro ro) (hcs:Fms c gcs frs) (hp:Hp c Ow (lk gh) w) (hold:Old W c Ow w) (hbot:eG ⟨f,N,s,k,ds,gro⟩ gcs=f0)
  (hret:(j=none∨j=some .ret)→step P (lone ((bF f none).atR a todo) (frs++cs0) w)=.next (lone { (bF f none).atR a todo with mode:=.returning } (frs++cs0) w))
  (hround:∀l v w' c1 cs,(Instr.endRound l j).run P w=.ok v w'→step P (lone ((bF f (some l)).atR a todo) (c1::cs) w)=.next (lone (c1.finish v) cs w')) :
  eL P W cs0 f0 r (lone ((bF f ro).atR a todo) (frs++cs0) w):=by
 unfold kx at h
 cases gro with
 |none=>
  have hro:ro=none:=hro;subst hro;simp only at h
  split at h
  ·exact Cq hX hb hK hfin h hs hm hcs hp hold hbot (.one (hret (.inl rfl)))
  ·exact Cq hX hb hK hfin h hs hm hcs hp hold hbot (.one (hret (.inr rfl)))
  ·exact(hb.bot h).elim
 |some p=>
  obtain⟨b,v⟩:=p;obtain⟨g,rfl,hg⟩:=hro;simp only at h
  split at h
  ·rename_i v' L c1 cs1 hlp;obtain⟨h1,hx⟩:=aB hb h;clear h;have h1:=Nat.eq_of_beq_eq_true h1;subst h1;obtain⟨g',L',gd,e1,e2,e3,e4,e5,e6,e7,e8,e9,e10,e11,e12⟩:=hp.pc b _ hlp;have hg:c.ι b v=some (some ⟨g,0,none⟩,0,0):=hg;rw[hg]at e1
   cases e1;obtain⟨fr1,frs1,rfl,hfm,hcs1⟩:=hcs;have hr:=run_endRound (P:=P) j e3;obtain⟨O',hp',hold'⟩:=sg (o':=.loop { L' with state:=if j.isNone then .ready else .done,pending:=j }) (x':=.lp v { L with st:=bif j.isNone then 0 else 2,gF:=j }) hp hold hlp rfl e2 e3
    (fun w' hw'=>⟨g,_,gd,hg,e2,hw',by cases j<;>rfl,rfl,e6,e7,e8,e9,e10,e11,e12⟩)
   exact nc hb hK hx hfm (aX _) hcs1 hp' hold' hbot (.one (hround _ _ _ _ _ hr))
  ·rename_i v' L hlp;obtain⟨h1,hx⟩:=aB hb h;clear h;have h1:=Nat.eq_of_beq_eq_true h1;subst h1;obtain⟨g',L',gd,e1,e2,e3,e4,e5,e6,e7,e8,e9,e10,e11,e12⟩:=hp.pc b _ hlp;have hg:c.ι b v=some (some ⟨g,0,none⟩,0,0):=hg;rw[hg]at e1
   cases e1;have hcs:frs=[]:=hcs;subst hcs;have hr:=run_endRound (P:=P) j e3;obtain⟨O',hp',hold'⟩:=sg (o':=.loop { L' with state:=if j.isNone then .ready else .done,pending:=j }) (x':=.lp v { L with st:=bif j.isNone then 0 else 2,gF:=j }) hp hold hlp rfl e2 e3
    (fun w' hw'=>⟨g,_,gd,hg,e2,hw',by cases j<;>rfl,rfl,e6,e7,e8,e9,e10,e11,e12⟩)
   exact .inr ⟨j.isNone,_,_,c,O',fun fr1 cs1 e=>by subst e;exact .one (hround _ _ _ _ _ hr),hfin _ _ hx,hp',hold'⟩
  ·exact(hb.bot h).elim
theorem B7{s:List (Nat×D)}{j:Nat}{d:D}(h:lk s j=some d):lk ((j,d)::s)=lk s:=by
 funext i
 rw[bU]
 by_cases e:j=i
 ·subst e;rw[bf,h]
 ·rw[aG e]
include hb hO in
theorem vv{ops:Array Oper}{Kf:List (Nat×D)→List (Nat×B)→R}(G:CG):∀(l:List Oper) (i:Nat) (acc:List Ac) (s:List (Nat×D)) (h:List (Nat×B)) (σ:Sl'),(∀j,l[j]?=ops[i+j]?)→acc.length=i→lk s=σ→T (ou al X O N nx ops Kf acc l s h)→
  ∃acs:List Ac,okD ops (acc.reverse++acs)=true∧uG ⟨X.Q,nx,X.E,X.Γ,G,GD2 P X,N⟩ ops (acc.reverse++acs) (fun σ η=>∃s' h',lk s'=σ∧lk h'=η∧T (Kf s' h')) (List.range' i l.length) σ (lk h)
 |[],i,acc,s,h,σ,hl,hi,es,ht=>by
  simp only[ou]at ht;obtain⟨h1,ht⟩:=aB hb ht;exact⟨[],by simpa using h1,⟨s,h,es,rfl,ht⟩⟩
 |o::l,i,acc,s,h,σ,hl,hi,es,ht=>by
  have h0:ops[i]?=some o:=by simpa using(hl 0).symm
  have hl':∀j,l[j]?=ops[(i+1)+j]?:=fun j=>by have:=hl (j+1);simpa [Nat.add_assoc,Nat.add_comm 1 j]using this
  simp only[ou]at ht;obtain⟨hd,ht⟩:=aB hb ht;have hd':Cn ⟨X.Q,nx,X.E,X.Γ,G,GD2 P X,N⟩ o.dst=true:=by cases hdst:o.dst<;>simp only[Cn]<;>(rw[hdst]at hd;exact hd)
  have fin:∀(ac:Ac) (d:D) (e:List (Nat×B)) (s:List (Nat×D)),ac.d=d→ac.e=e→lk s=σ→VA ⟨X.Q,nx,X.E,X.Γ,G,GD2 P X,N⟩ ops o ac σ (lk h)→T (ou al X O N nx ops Kf (ac::acc) l (mD s o.dst d) (e++h))→
    ∃acs:List Ac,okD ops (acc.reverse++acs)=true∧uG ⟨X.Q,nx,X.E,X.Γ,G,GD2 P X,N⟩ ops (acc.reverse++acs) (fun σ η=>∃s' h',lk s'=σ∧lk h'=η∧T (Kf s' h')) (List.range' i (l.length+1)) σ (lk h):=by
   intro ac d e s e1 e2 es hv hw;subst e1;subst e2;obtain⟨acs,g1,g2⟩:=vv G l (i+1) (ac::acc) _ _ (apS o ac σ) hl' (by simp[hi]) (by
    unfold apS
    cases hdst:o.dst with
    |none=>exact es
    |some t=>show lk ((t,ac.d)::s)=up σ t ac.d;rw[bU,es]) hw
   have e3:(ac::acc).reverse++acs=acc.reverse++ac::acs:=by simp
   rw[e3]at g1 g2;refine⟨ac::acs,g1,?_⟩;rw[List.range'_succ];refine⟨o,ac,h0,?_,hv,?_⟩
   ·rw[List.getElem?_append_right (by simp[hi])];simp[hi]
   ·rw[s8]at g2;exact g2
  have yes:∀{s:List (Nat×D)},lk s=σ→y8 ⟨X.Q,nx,X.E,X.Γ,G,GD2 P X,N⟩ ops o σ→T (opG al X.E (lk h) (nx+o.dst.getD 0) X.Q (j7 al X O true) (evD X.Γ s) o.op fun d rd e=>ou al X O N nx ops Kf (.ex d rd e::acc) l (mD s o.dst d) (e++h))→
    ∃acs:List Ac,okD ops (acc.reverse++acs)=true∧uG ⟨X.Q,nx,X.E,X.Γ,G,GD2 P X,N⟩ ops (acc.reverse++acs) (fun σ η=>∃s' h',lk s'=σ∧lk h'=η∧T (Kf s' h')) (List.range' i (l.length+1)) σ (lk h):=by
   intro s es hg ht;have h2:=KE (T:=T) (G:=GD2 P X) hb (fun t η f l k h=>Hn hb hO h) ht;obtain⟨d,rd,e,g1,g2⟩:=ss CE h2;refine fin (.ex d rd e) d e s rfl rfl es ⟨hd',hg,?_⟩ g1;have:=g2 (lk h) (evF X.Γ σ) (fun x _=>by rw[←es,Mj]) (fun _ _=>rfl);exact this
  split at ht
  ·rename_i hg;exact yes es (by simp[y8,hg]) ht
  ·rename_i j want hg
   split at ht
   ·rename_i dj hj;obtain⟨hN,ht⟩:=aB hb ht
    split at ht
    ·rename_i b hbj;obtain⟨h1,h2⟩:=CQ hb ht
     by_cases e:b=want
     ·subst e;have:=h1 (by cases b<;>rfl);refine yes (s:=(dj,.fr (.vl (.bool b)))::s) (by rw[B7 hbj,es]) ?_ this;simp only[y8,hg];exact⟨dj,hj,hN,by rw[←es];exact hbj⟩
     ·have e':b=!want:=by cases b<;>cases want<;>simp_all
      have h2:=h2 (by rw[e'];cases want<;>rfl);rw[←e']at h2;refine fin .sk Un [] _ rfl rfl (by rw[B7 hbj,es]) ⟨hd',?_⟩ h2;simp only[gno,hg];exact⟨dj,hj,hN,.inl (by rw[←es,hbj,e'])⟩
    ·rename_i vs hbj;refine fin .sk Un [] _ rfl rfl es ⟨hd',?_⟩ ht;simp only[gno,hg];exact⟨dj,hj,hN,.inr ⟨vs,by rw[←es];exact hbj⟩⟩
    ·exact(hb.bot ht).elim
   ·exact(hb.bot ht).elim
theorem xd{ops:Array Oper}(h:o5 ops=true)(i:Nat)(o:Oper)(ho:ops[i]?=some o)(d:Call):o.op≠.defer d:=by
 unfold o5 at h;rw[List.all_eq_true]at h;have:=h o (by
  have:=Array.mem_of_getElem? ho;simpa using this)
 intro e;rw[e]at this
 cases this
include hX hΓ hb hK hO in
theorem H6 {id:Nat}{ops:Array Oper}{t':List Item} (hnd:o5 ops=true) (h:T (ou al X O N nx ops (fun s h=>K ⟨⟨f,N,s,k,ds,gro⟩,gcs,h,nx+N⟩) [] ops.toList s gh))
  (hs:bC c N s a.tmps) (hm:bH c ds a.defers) (hro:jK c gro ro) (hcs:Fms c gcs frs) (hp:Hp c Ow (lk gh) w) (hold:Old W c Ow w) (hbot:eG ⟨f,N,s,k,ds,gro⟩ gcs=f0) (hk:KIs c k t') :
  eL P W cs0 f0 r (lone ((bF f ro).atR a (.code (.region id ops true)::t')) (frs++cs0) w):=by
 obtain⟨acs,g1,g2⟩:=vv hb hO (fun _ _ _ _ _=>False) ops.toList 0 [] s gh (lk s) (fun j=>by simp) rfl rfl h;simp only[List.reverse_nil,List.nil_append]at g1 g2;have hXc:XOk P ⟨X.Q,nx,X.E,X.Γ,fun _ _ _ _ _=>False,GD2 P X,N⟩:=⟨hX.E,(fun _ _ _ _ _ h=>h.elim),Ee hX,CE,hX.mixed,hX.deep,hX.Q⟩
 have hIs:Is W ⟨N,a.defers⟩ ⟨s,gh⟩ a w c Ow:=⟨hs.sl,hp,hold⟩
 have hany:=xT (J:=fun c'=>c.le c') (Q:=fun e a' w'=>e=.normal∧∃σ η c' O',(∃s' h',lk s'=σ∧lk h'=η∧T (K ⟨⟨f,N,s',k,ds,gro⟩,gcs,h',nx+N⟩))∧IsF W ⟨N,a.defers⟩ σ η a' w' c' O'∧c.le c') (fun _ _ h1 h2=>h2.trans h1) (Cf.le.refl c) hXc hΓ rfl
  (fun σ η a w c' O' hj hk hf=>⟨rfl,σ,η,c',O',hk,hf,hj⟩) hIs g1 g2
 have hlist:=wpAny_sound ops.size (w.tape w.drawn (.order f id)) _ a _ hany;obtain⟨a',w',⟨σ,η,c',O',⟨s',h',rfl,rfl,hT⟩,hf,hle⟩,hst⟩:=sK (f:=f) (ro:=ro) (k:=t') (cs:=frs++cs0) (xd hnd) (N:=fun a' w'=>∃σ η c' O',(∃s' h',lk s'=σ∧lk h'=η∧T (K ⟨⟨f,N,s',k,ds,gro⟩,gcs,h',nx+N⟩))∧IsF W ⟨N,a.defers⟩ σ η a' w' c' O'∧c.le c') (fun e a w h=>h) _ a _ hlist;refine kJ hK hT (.head ?_ hst) ⟨⟨a',t',ro,rfl,⟨hf.size,hf.get⟩,hk.le hle,by rw[hf.defers];exact hm.le hle,hro.le hle⟩,hcs.le hle,hf.hp,hf.old,by rw[←hbot];exact dA⟩;rw[stepR_region_draw];simp only[Region.schedule,hX.mixed,Bool.true_or,if_true];rfl
end
end
section
variable {c:Cf}{w:World}{Ow:Nat→Nat→Prop}{W:Bs}
theorem xr {h:List (Nat×B)}{b:Nat}{o:Obj}{x:B} (hp:Hp c Ow (lk h) w) (hold:Old W c Ow w) (hv:x.ver=nv (lk h) b)
  (hx:∀c' S w',c.le c'→c'.ι b (nv (lk h) b)=some (some ⟨w.heap.size,0,none⟩,0,0)→S w.heap.size→w'.heap[w.heap.size]?=some o→x.on c' b S w') :
  ∃c' O',c.le c'∧c'.ι b (nv (lk h) b)=some (some ⟨w.heap.size,0,none⟩,0,0)∧Hp c' O' (lk ((b,x)::h)) (w.alloc o)∧Old W c' O' (w.alloc o):=by
 have hfr:=hp.fresh b;have hle:c.le (c.add b (nv (lk h) b) (some ⟨w.heap.size,0,none⟩,0,0)):=Cf.eB hfr;have hc:Chg w (w.alloc o) (Ow b):=⟨rfl,rfl,rfl,by simp,fun j hj _=>Below.heap_alloc w o j hj⟩
 have hnew:∀g,(g=w.heap.size)→Ow b g∨(w.heap.size≤g∧g<(w.alloc o).heap.size):=fun g hg=>.inr ⟨by omega,by subst hg;simp⟩
 exact⟨_,_,hle,Cf.cP,hp.upd hc (S':=fun g=>g=w.heap.size) hnew hle rfl rfl (hp.cq hv) (hx _ _ _ hle Cf.cP rfl (World.alloc_heap_new w o)),hold.upd hc hnew rfl rfl⟩
end
section
variable {P:Program}{X:Tx} (hX:iP P X) {W:Bs}{cs0:List Frame}{f0:Nat}{r:tZ} (hΓ:GOk X.Γ W.c)
variable {R:Type}{al:Al R}{T:R→Prop} (hb:uR al T) {K:Cfg→R} (hK:∀g,T (K g)→Snd P W cs0 f0 r g)
 {O:Orc R} (hO:vU P X T O) {fin:D→List (Nat×B)→R} (hfin:∀d h,T (fin d h)→r d h)
section
variable {c:Cf}{Ow:Nat→Nat→Prop}{w:World}{f N nx:Nat}{s:List (Nat×D)}{k:List KI}{ds:List (Nat×Nat)}{gro:Option (Nat×Nat)}{gcs:List Fm}{gh:List (Nat×B)}
 {a:Act}{todo:List Item}{ro:Option Nat}{frs:List Frame}
theorem Bx{f:Nat}{d:D}{u:Value}{g:FuncId}{l:Nat}{cs1:List D}(hd:D.rep c d u)(hc:d=.cl g cs1∨∃fs,d=.fr (.cl g fs)∧cs1=fs.map F.toD)(hcf:∀{P:Program},CF P g→CF P g) :
  ∃vs,u=.func (.func g) #[] vs.toArray∧D.ah c cs1 vs:=by
 rcases hc with rfl|⟨fs,rfl,rfl⟩
 ·unfold D.rep at hd;obtain⟨vs,h1,h2⟩:=hd;exact⟨vs,h1,h2⟩
 ·unfold D.rep F.rep at hd;obtain⟨vs,h1,h2⟩:=hd;exact⟨vs,h1,iY h2⟩
include hX hΓ hb hK hO in
theorem DY {x:Operand}{ps:Array Tmp}{asg body:Code}{t':List Item}
  (h:T (stepG al X O fin K ⟨⟨f,N,s,.code (.rangeFunc x ps asg body)::k,ds,gro⟩,gcs,gh,nx⟩))
  (hs:bC c N s a.tmps) (hm:bH c ds a.defers) (hro:jK c gro ro) (hcs:Fms c gcs frs) (hp:Hp c Ow (lk gh) w) (hold:Old W c Ow w) (hbot:eG ⟨f,N,s,k,ds,gro⟩ gcs=f0) (hk:KIs c k t') :
  eL P W cs0 f0 r (lone ((bF f ro).atR a (.code (.rangeFunc x ps asg body)::t')) (frs++cs0) w):=by
 have hg:GOk X.Γ c:=gok hΓ hold;simp only[stepG]at h
 split at h
 ·rename_i d hx;have hfv:D.rep c d (a.eval x):=lP hs.sl hg hx;have fin_:∀{g:FuncId}{cs1:List D}{c2:Cf}{O2:Nat→Nat→Prop}{w2:World}{l:Nat}{b v:Nat}{h2:List (Nat×B)}{nx2:Nat}{mark:List Deferred}{fm2:Fm},(d=.cl g cs1∨∃fs,d=.fr (.cl g fs)∧cs1=fs.map F.toD)→
    T (eP al X O K g (.yl b v::cs1) (fm2::gcs) h2 nx2)→c.le c2→At0 c2 b v l→Hp c2 O2 (lk h2) w2→Old W c2 O2 w2→sy c2 fm2 ((bF f ro).atR { a with defers:=mark++a.defers } (.inRangeFunc l::t'))→eG fm2 gcs=f0→
    (Instr.enterLoop f a.tmps ps asg body ro).run P w=.ok (l,mark) w2→eL P W cs0 f0 r (lone ((bF f ro).atR a (.code (.rangeFunc x ps asg body)::t')) (frs++cs0) w):=by
   intro g cs1 c2 O2 w2 l b v h2 nx2 mark fm2 hd hT hle hat hp2 hold2 hfm hbot2 hent;obtain⟨vs,hv1,hv2⟩:=Bx (f:=f) (l:=l) hfv hd (fun h=>h);refine pe hX hΓ hb hK hO (vs:=.func (.yield l) #[] #[]::vs) hT ⟨_,vs,rfl,?_,D.ah.le hle _ _ hv2⟩ hfm (hcs.le hle) hp2 hold2 hbot2 fun hcf=>.one ?_
   ·unfold D.rep;exact⟨l,hat,rfl⟩
   ·refine stepR_rangeFunc (b:=bF f ro) (d:={ target:=.fn (.func g) vs.toArray,args:=#[.func (.yield l) #[] #[]] }) (w₁':=w2) hent ?_ ?_
    ·simp only[resolve,rangeCall];rw[hv1];simp[Deferred.ofValue,Act.eval]
    ·have:=hcf.run (#[.func (.yield l) #[] #[]]++vs.toArray) w2;simpa [invoke]using this
  cases gro with
  |none=>
   have hro:ro=none:=hro;subst hro;simp only at h;obtain⟨c1,O1,l1,a1,p1,o1⟩:=xr (o:=.deferred (some [])) (b:=nx) (x:=.df (nv (lk gh) nx)) hp hold rfl (fun c' S w' _ h1 h2 h3=>⟨[w.heap.size],.inl ⟨_,rfl,h1⟩,by simp,fun g hg=>by simp at hg;subst hg;exact⟨h2,h3⟩⟩);obtain⟨c2,O2,l2,a2,p2,o2⟩:=xr (o:=.loop { state:=.ready,pending:=none,fn:=f,tmps:=a.tmps,params:=ps,assign:=asg,body,defers:=w.heap.size }) (b:=nx+1)
    (x:=.lp (nv (lk ((nx,.df (nv (lk gh) nx))::gh)) (nx+1)) ⟨0,none,f,N,s,ps.toList,asg,body,nx,nv (lk gh) nx⟩) p1 o1 rfl
    (fun c' S w' hle h1 h2 h3=>⟨_,_,w.heap.size,h1,h2,h3,rfl,rfl,rfl,by simp,rfl,rfl,(hs.le l1).le hle,hle.ι _ _ _ a1,rfl⟩)
   have hent:=run_enterLoop_outer (P:=P) (w:=w) f a.tmps ps asg body;have hle:=l1.trans l2;rw[World.size_alloc]at a2;have key:∀{g:FuncId}{cs1:List D},(d=.cl g cs1∨∃fs,d=.fr (.cl g fs)∧cs1=fs.map F.toD)→T (eP al X O K g (.yl (nx+1) (nv (up (lk gh) nx (.df (nv (lk gh) nx))) (nx+1))::cs1)
     (⟨f,N,s,.rf (nx+1) (nv (up (lk gh) nx (.df (nv (lk gh) nx))) (nx+1))::k,(nx,nv (lk gh) nx)::ds,none⟩::gcs)
     ((nx+1,.lp (nv (up (lk gh) nx (.df (nv (lk gh) nx))) (nx+1)) ⟨0,none,f,N,s,ps.toList,asg,body,nx,nv (lk gh) nx⟩)::(nx,.df (nv (lk gh) nx))::gh) (nx+2))→
     eL P W cs0 f0 r (lone ((bF f none).atR a (.code (.rangeFunc x ps asg body)::t')) (frs++cs0) w):=fun hd hT=>
    fin_ (l:=w.heap.size+1) hd hT hle a2 p2 o2 ⟨_,_,none,rfl,hs.le hle,⟨_,t',rfl,⟨_,rfl,a2⟩,hk.le hle⟩,⟨[w.heap.size],_,rfl,.inl ⟨_,rfl,l2.ι _ _ _ a1⟩,hm.le hle⟩,rfl⟩ (by rw[←hbot];exact dA) hent
   split at h
   ·exact key (.inl rfl) h
   ·exact key (.inr ⟨_,rfl,rfl⟩) h
   ·exact(hb.bot h).elim
  |some p=>
   obtain⟨b0,v0⟩:=p;obtain⟨g0,rfl,hg0⟩:=hro;simp only at h
   split at h
   ·rename_i v' L hlp;obtain⟨h1,hx1⟩:=aB hb h;clear h;have h1:=Nat.eq_of_beq_eq_true h1;subst h1;obtain⟨g',L',gd,e1,e2,e3,e4,e5,e6,e7,e8,e9,e10,e11,e12⟩:=hp.pc b0 _ hlp;have hg0:c.ι b0 v0=some (some ⟨g0,0,none⟩,0,0):=hg0;rw[hg0]at e1
    cases e1;obtain⟨c2,O2,l2,a2,p2,o2⟩:=xr (o:=.loop { state:=.ready,pending:=none,fn:=f,tmps:=a.tmps,params:=ps,assign:=asg,body,defers:=L'.defers }) (b:=nx)
     (x:=.lp (nv (lk gh) nx) ⟨0,none,f,N,s,ps.toList,asg,body,L.db,L.dv⟩) hp hold rfl
     (fun c' S w' hle h1 h2 h3=>⟨_,_,gd,h1,h2,h3,rfl,rfl,rfl,by simp,rfl,rfl,hs.le hle,hle.ι _ _ _ e11,e12⟩)
    have hent:=run_enterLoop_inner (P:=P) (w:=w) e3 f a.tmps ps asg body;have key:∀{g:FuncId}{cs1:List D},(d=.cl g cs1∨∃fs,d=.fr (.cl g fs)∧cs1=fs.map F.toD)→T (eP al X O K g (.yl nx (nv (lk gh) nx)::cs1)
      (⟨f,N,s,.rf nx (nv (lk gh) nx)::k,ds,some (b0,v0)⟩::gcs) ((nx,.lp (nv (lk gh) nx) ⟨0,none,f,N,s,ps.toList,asg,body,L.db,L.dv⟩)::gh) (nx+1))→
      eL P W cs0 f0 r (lone ((bF f (some g0)).atR a (.code (.rangeFunc x ps asg body)::t')) (frs++cs0) w):=fun hd hT=>
     fin_ (l:=w.heap.size) (mark:=[]) hd hT l2 a2 p2 o2 ⟨_,_,some g0,rfl,hs.le l2,⟨_,t',rfl,⟨_,rfl,a2⟩,hk.le l2⟩,hm.le l2,⟨g0,rfl,l2.ι _ _ _ hg0⟩⟩ (by rw[←hbot];exact dA) hent
    split at hx1
    ·exact key (.inl rfl) hx1
    ·exact key (.inr ⟨_,rfl,rfl⟩) hx1
    ·exact(hb.bot hx1).elim
   ·exact(hb.bot h).elim
 ·exact(hb.bot h).elim
theorem DL{cd:Code}{t':List Item}{m':Machine}(h:eL P W cs0 f0 r (lone ((bF f ro).atR a (.inLoop cd::t')) (frs++cs0) w)):eL P W cs0 f0 r (lone ((bF f ro).atR a (.code (.loop cd)::t')) (frs++cs0) w):=by
 have key:∀{fr:Frame}{cs:List Frame}{w':World},Steps P (lone ((bF f ro).atR a (.inLoop cd::t')) (frs++cs0) w) (lone fr cs w')→(fr.mode=.returning∨cs.length<(frs++cs0).length)→Steps P (lone ((bF f ro).atR a (.code (.loop cd)::t')) (frs++cs0) w) (lone fr cs w'):=by
  rintro fr cs w' ⟨n,hn⟩ hm
  cases n with
  |zero=>
   simp only[runN]at hn;have e:=congrArg (fun m:Stepped=>match m with | .next m=>(m.gs[0]?).map (fun g:Goroutine=>(g.frame.mode,g.callers.length))|_=>none) hn;simp[lone,Frame.atR]at e;rcases hm with hm|hm
   ·rw[hm]at e
    cases e.1
   ·simp only[List.length_append]at hm;omega
  |succ n=>
   simp only[runN]at hn;rw[stepR_inLoop]at hn;exact .head stepR_loop ⟨n,hn⟩
 rcases h with⟨v,w',fr,d,hh,c',O',h1,h2,h3,h4⟩|⟨q,w',hh,c',O',h1,h2⟩
 ·exact .inl ⟨v,w',fr,d,hh,c',O',key h1 (.inl h3.1),h2,h3,h4⟩
 ·exact .inr ⟨q,w',hh,c',O',fun fr1 cs1 e=>key (h1 fr1 cs1 e) (.inr (by rw[e];simp;omega)),h2⟩
include hX hΓ hb hK hO hfin in
theorem F6{g:Cfg}(h:T (stepG al X O fin K g)):Snd P W cs0 f0 r g:=by
 intro c Ow fr frs w ⟨⟨a,todo,ro,hfr,hs,hk,hm,hro⟩,hcs,hp,hold,hbot⟩;subst hfr;obtain⟨⟨f,N,s,k,ds,gro⟩,gcs,gh,nx⟩:=g;simp only at hs hk hm hro hcs hp hbot ⊢;have hg:GOk X.Γ c:=gok hΓ hold
 cases k with
 |nil=>
  have hk:todo=[]:=hk;subst hk;exact l8 hX hb hK hfin (j:=none) h hs hm hro hcs hp hold hbot (fun _=>stepR_end rfl) (fun l v w' c1 cs hr=>stepR_round_end rfl rfl hr)
 |cons x k=>
  obtain⟨it,t',rfl,hit,hk⟩:=hk;have hbt:∀(k:List KI),eG ⟨f,N,s,k,ds,gro⟩ gcs=f0:=fun k=>by rw[←hbot];exact dA
  cases x with
  |code cd=>
   have hit:it=.code cd:=hit;subst hit
   cases cd with
   |skip=>simp only[stepG]at h;exact o8 hK h hs hm hro hcs hp hold (hbt []) hk stepR_skip
   |label l=>simp only[stepG]at h;exact o8 hK h hs hm hro hcs hp hold (hbt []) hk stepR_label
   |seq x y=>simp only[stepG]at h;exact o8 hK h hs hm hro hcs hp hold (hbt []) ⟨_,_,rfl,rfl,_,_,rfl,rfl,hk⟩ stepR_seq
   |cond x y z=>
    simp only[stepG]at h;unfold GO at h
    split at h
    ·rename_i q hq;have hx:evD X.Γ s x=some (.fr (.vl (.bool q))):=by
      cases he:evD X.Γ s x with
      |none=>rw[he]at hq;cases hq
      |some d=>rw[he]at hq;simp at hq;rw[hq]
     have hv:=aL (lP hs.sl hg hx);have h:=CQ hb h
     cases q with
     |true=>exact o8 hK (h.1 rfl) hs hm hro hcs hp hold (hbt []) ⟨_,_,rfl,rfl,hk⟩ (by rw[stepR_cond hv];rfl)
     |false=>exact o8 hK (h.2 rfl) hs hm hro hcs hp hold (hbt []) ⟨_,_,rfl,rfl,hk⟩ (by rw[stepR_cond hv];rfl)
    ·exact(hb.bot h).elim
   |block id b=>simp only[stepG]at h;exact o8 hK h hs hm hro hcs hp hold (hbt []) ⟨_,_,rfl,rfl,_,_,rfl,rfl,hk⟩ stepR_block
   |loop b=>
    simp only[stepG]at h;exact DL (m':=lone ((bF f ro).atR a []) [] w) (hK _ h c Ow _ frs w ⟨⟨a,.inLoop b::t',ro,rfl,hs,⟨_,_,rfl,rfl,hk⟩,hm,hro⟩,hcs,hp,hold,hbt _⟩)
   |scope b=>simp only[stepG]at h;exact o8 hK h hs hm hro hcs hp hold (hbt []) ⟨_,_,rfl,rfl,_,_,rfl,rfl,hk⟩ (step_lone_go (by simp[Go.stepG,Go.stepG.exec,Frame.atR]))
   |exit id=>
    simp only[stepG]at h
    split at h
    ·rename_i k' hk';obtain⟨t2,h1,h2⟩:=eW hk' hk;exact o8 hK h hs hm hro hcs hp hold (hbt []) h2 (stepR_exit h1)
    ·rename_i hk';have h1:=bW hk' hk;exact l8 hX hb hK hfin (j:=some (.exit id)) h hs hm hro hcs hp hold (hbt _) (fun e=>by rcases e with e|e<;>cases e) (fun l v w' c1 cs hr=>stepR_round_exit rfl rfl h1 hr)
   |goto l=>
    simp only[stepG]at h
    split at h
    ·rename_i k' hk';obtain⟨t2,h1,h2⟩:=fc hk' hk;exact o8 hK h hs hm hro hcs hp hold (hbt []) h2 (stepR_goto h1)
    ·rename_i hk';have h1:=bS hk' hk;exact l8 hX hb hK hfin (j:=some (.goto l)) h hs hm hro hcs hp hold (hbt _) (fun e=>by rcases e with e|e<;>cases e) (fun l v w' c1 cs hr=>stepR_round_goto rfl rfl h1 hr)
   |ret=>simp only[stepG]at h;exact l8 hX hb hK hfin (j:=some .ret) h hs hm hro hcs hp hold (hbt _) (fun _=>stepR_ret rfl) (fun l v w' c1 cs hr=>stepR_round_ret rfl rfl hr)
   |region id ops draw=>
    cases draw with
    |false=>simp only[stepG]at h;exact o8 hK h hs hm hro hcs hp hold (hbt []) ⟨_,_,rfl,Ka ops,hk⟩ stepR_region
    |true=>
     simp only[stepG]at h;obtain⟨h1,h⟩:=aB hb h;exact H6 hX hΓ hb hK hO h1 h hs hm hro hcs hp hold (hbt _) hk
   |rangeFunc x ps asg body=>exact DY (fin:=fin) hX hΓ hb hK hO h hs hm hro hcs hp hold (hbt _) hk
   |refuse _=>simp only[stepG]at h;exact(hb.bot h).elim
  |blk id=>have hit:it=.inBlock id:=hit;subst hit;simp only[stepG]at h;exact o8 hK h hs hm hro hcs hp hold (hbt []) hk stepR_inBlock
  |scope cd=>have hit:it=.inScope cd:=hit;subst hit;simp only[stepG]at h;exact o8 hK h hs hm hro hcs hp hold (hbt []) hk (step_lone_go (by simp[Go.stepG,Go.stepG.exec,Frame.atR]))
  |loop cd=>have hit:it=.inLoop cd:=hit;subst hit;simp only[stepG]at h;exact o8 hK h hs hm hro hcs hp hold (hbt []) ⟨_,_,rfl,rfl,_,_,rfl,rfl,hk⟩ stepR_inLoop
  |reg ops l=>
   cases l with
   |nil=>
    obtain⟨il,rfl,hil⟩:=hit;have:il=[]:=by simpa using hil
    subst this;simp only[stepG]at h;exact o8 hK h hs hm hro hcs hp hold (hbt []) hk stepR_region_end
   |cons o l=>
    obtain⟨i,il,rfl,ho,hil⟩:=zo hit;simp only[stepG]at h;have skip:∀{s:List (Nat×D)},bC c N s a.tmps→¬Region.wanted o (yielded ops a.tmps)=true→T (al.ak (dOk N o.dst) (K ⟨⟨f,N,mD s o.dst Un,.reg ops l::k,ds,gro⟩,gcs,gh,nx⟩))→eL P W cs0 f0 r (lone ((bF f ro).atR a (.inRegion ops (i::il)::t')) (frs++cs0) w):=by
     intro s hs hw hT;obtain⟨hd,hT⟩:=aB hb hT;have hw':Region.wanted o (yielded ops a.tmps)=false:=by simpa using hw
     have hst:=stepR_op_skip (P:=P) (b:=bF f ro) (a:=a) (k:=t') (cs:=frs++cs0) (w:=w) (ops:=ops) (i:=i) (rest:=il) (by simp[ho,hw']);simp only[ho,Option.bind_some]at hst;refine kJ hK hT (.one hst) ⟨⟨a.put o.dst undef,_,ro,rfl,hs.put hd (aX _),⟨_,t',rfl,hil,hk⟩,?_,hro⟩,hcs,hp,hold,by rw[←hbt []];exact dA⟩;have:(a.put o.dst undef).defers=a.defers:=by cases o.dst<;>rfl
     rw[this];exact hm
    split at h
    ·rename_i hgd;exact zu hX hΓ hb hK hO h hs hm hro hcs hp hold (hbt _) ho hil hk (by simp[Region.wanted,hgd])
    ·rename_i j want hgd
     split at h
     ·rename_i dj hj;obtain⟨hN,h⟩:=aB hb h
      split at h
      ·rename_i b hbj;have hv:=aL (hs.get dj _ hbj);have hy:=ui (ops:=ops) hj (Ix hs.sl) (by rw[Db _ _ _ hbj,hv]) (by exact hN);simp only at hy;obtain⟨h1,h2⟩:=CQ hb h
       by_cases e:b=want
       ·subst e;have h1:=h1 (by cases b<;>rfl);refine zu hX hΓ hb hK hO h1 (hs.NI hbj) hm hro hcs hp hold (by rw[←hbt []];exact dA) ho hil hk ?_;simp only[Region.wanted,hgd,hy];simp
       ·have e':b=!want:=by cases b<;>cases want<;>simp_all
        have h2:=h2 (by rw[e'];cases want<;>rfl);rw[←e']at h2;refine skip (hs.NI hbj) ?_ h2;simp only[Region.wanted,hgd,hy,e']
        cases want<;>simp
      ·rename_i vs hbj;have hv:=aL (hs.get dj _ hbj);have hy:=ui (ops:=ops) hj (Ix hs.sl) (by rw[Db _ _ _ hbj,hv]) (by exact hN);simp only at hy;refine skip hs ?_ h;simp only[Region.wanted,hgd,hy];simp
      ·exact(hb.bot h).elim
     ·exact(hb.bot h).elim
  |rf b v=>simp only[stepG]at h;exact(hb.bot h).elim
  |erf b v=>
   obtain⟨g,rfl,hgι⟩:=hit;simp only[stepG]at h
   split at h
   ·rename_i v' L hlp;obtain⟨h1,hx1⟩:=aB hb h;clear h;rw[Bool.and_eq_true]at h1;obtain⟨h1,hst⟩:=h1;have h1:=Nat.eq_of_beq_eq_true h1;subst h1;obtain⟨g',L',gd,e1,e2,e3,e4,e5,e6,e7,e8,e9,e10,e11,e12⟩:=hp.pc b _ hlp;have hgι:c.ι b v=some (some ⟨g,0,none⟩,0,0):=hgι;rw[hgι]at e1
    cases e1;have hbusy:L'.state≠.busy:=by
     rw[e4]
     match hl:L.st with
     |0=>simp[I3]
     |1=>rw[hl]at hst;simp at hst
     |2=>simp[I3]
     |n+3=>simp[I3]
    have hr:=run_endLoop (P:=P) e3 hbusy;obtain⟨O',hp',hold'⟩:=sg (o':=.loop { L' with state:=.exhausted }) (x':=.lp v { L with st:=3 }) hp hold hlp rfl e2 e3
     (fun w' hw'=>⟨g,_,gd,hgι,e2,hw',rfl,e5,e6,e7,e8,e9,e10,e11,e12⟩)
    refine kJ hK hx1 (.one (stepR_endRangeFunc hr)) ⟨⟨a,_,ro,rfl,hs,?_,hm,hro⟩,hcs,hp',hold',by rw[←hbt []];exact dA⟩;rw[e5]
    cases L.gF with
    |none=>exact hk
    |some j=>exact⟨_,_,rfl,rfl,hk⟩
   ·exact(hb.bot h).elim
  |br=>
   have hit:it=.beginRound:=hit;subst hit;simp only[stepG]at h
   split at h
   ·rename_i b v;obtain⟨g,rfl,hgι⟩:=hro
    split at h
    ·rename_i v' L hlp;obtain⟨h1,hx1⟩:=aB hb h;clear h;rw[Bool.and_eq_true]at h1;obtain⟨h1,hst⟩:=h1;have h1:=Nat.eq_of_beq_eq_true h1;have hst:=Nat.eq_of_beq_eq_true hst;subst h1;obtain⟨g',L',gd,e1,e2,e3,e4,e5,e6,e7,e8,e9,e10,e11,e12⟩:=hp.pc b _ hlp;have hgι:c.ι b v=some (some ⟨g,0,none⟩,0,0):=hgι;rw[hgι]at e1
     cases e1;have hr:=run_beginRound (P:=P) e3 (by rw[e4,hst];rfl);obtain⟨O',hp',hold'⟩:=sg (o':=.loop { L' with state:=.busy }) (x':=.lp v { L with st:=1 }) hp hold hlp rfl e2 e3
      (fun w' hw'=>⟨g,_,gd,hgι,e2,hw',rfl,e5,e6,e7,e8,e9,e10,e11,e12⟩)
     exact kJ hK hx1 (.one (stepR_beginRound rfl hr)) ⟨⟨a,t',some g,rfl,hs,hk,hm,g,rfl,hgι⟩,hcs,hp',hold',by rw[←hbt []];exact dA⟩
    ·exact(hb.bot h).elim
   ·exact(hb.bot h).elim
end
end
class ix (ρ:Type) where
 post:ρ→tZ
def Sn{ρ:Type}[ix ρ](P:Program)(X:Tx)(f0:Nat)(r:ρ)(g:Cfg):Prop:=∀(W:Bs) (cs0:List Frame),GOk X.Γ W.c→Snd P W cs0 f0 (ix.post r) g
instance:ix (F×Bool):=⟨fun r d h=>∃x is,D.toF (lk h) 6 d=some (x,is)∧x=r.1∧(r.2=true→cN (lk h) d=true)⟩
def wT(f:Nat)(fi:Fi)(l:List D):Cfg:=⟨⟨f,fi.N,j9 0 l,[.code fi.body],[],none⟩,[],[],0⟩
section
variable {P:Program}{X:Tx} (hX:iP P X) {f0:Nat}
section
variable {ρ:Type} [ix ρ] {r:ρ}
variable {R:Type}{al:Al R}{T:R→Prop} (hb:uR al T) {K:Cfg→R} (hK:∀g,T (K g)→Sn P X f0 r g)
 {O:Orc R} (hO:vU P X T O) {fin:D→List (Nat×B)→R} (hfin:∀d h,T (fin d h)→ix.post r d h)
include hX hb hK hO hfin in
theorem J0{g:Cfg}(h:T (stepG al X O fin K g)):Sn P X f0 r g:=fun W cs0 hΓ=>F6 hX hΓ hb (fun g hg=>hK g hg W cs0 hΓ) hO hfin h
end
variable {r:F×Bool}
theorem HM(l:List F):(l.map F.toD).length=l.length:=List.length_map _
include hX in
theorem IK{f:FuncId}{fi:Fi}{l:List F}(hf:X.fi f=some fi)(hN:Nat.ble l.length fi.N=true)(h:Sn P X f r (wT f fi (l.map F.toD))):Pure P X.Γ f l r.1 r.2:=by
 obtain⟨hcf,fn,hfn,hbd,hNn,hrs⟩:=hX.fi _ _ hf;refine⟨hcf,fun Z w vs hZ hΓ hvs=>?_⟩
 let W:Bs:=⟨w,fun _=>False,⟨fun _ _=>none,w,Z⟩⟩
 have hvs':D.ah W.c (l.map F.toD) vs:=iY hvs;intro cs;have hs:=jR (N:=fi.N) hvs' (by rw[HM];exact hN);obtain⟨v,w',fr,d,h1,c1,O1,q1,q2,q3,⟨x,is,q4,q5,q6⟩,q7,q8,q9⟩:=eL.fn (fun q h ⟨x,is,e,_⟩=>by simp[D.toF]at e) <| h W cs hΓ W.c (fun _ _=>False) ((bF f none).atR ⟨vs.toArray++Array.replicate (fi.N-vs.toArray.size) undef,[]⟩ [.code fi.body]) [] w
  ⟨⟨_,_,none,rfl,hs,⟨_,_,rfl,rfl,rfl⟩,rfl,rfl⟩,rfl,⟨fun b x hx=>(by simp[wT,lk]at hx),fun b v y hy=>(by cases hy),fun b b' g h=>h.elim,fun g hg=>⟨hZ g hg,rfl,fun _ h=>h⟩,fun b g h=>h.elim⟩,
   ⟨rfl,rfl,rfl,Nat.le_refl _,fun _ _ _=>rfl,fun _ _ h=>h.elim,fun g hg=>.inl hg,Ext.refl _ _⟩,rfl⟩
 have hWO:∀g,¬W.O g:=fun _ h=>h
 have h4:=jC q8 is 6 _ _ _ _ q4 (fun b h=>h) q7;refine⟨.returned v,w',fr,⟨v,rfl,⟨q9.os,q9.tape,q9.output,q9.size,fun g hg=>q9.cv g hg (hWO g)⟩,?_⟩,?_,q2,q3⟩
 ·rw[←q5]
  cases hfr:cN (lk h1) d with
  |true=>
   have h6:=vG q8 is 6 _ _ _ _ q4 (fun b h=>h) hfr q7;refine F.rep.ext ⟨fun g hg=>?_,fun g _=>rfl⟩ _ _ h6;obtain⟨b,_,hg⟩:=hg;rcases q9.own b g hg with h5|h5
   ·exact(hWO g h5).elim
   ·exact .inr ⟨h5,q8.lt b g hg⟩
  |false=>
   have hr2:r.2=false:=by
    cases hr:r.2 with
    |false=>rfl
    |true=>rw[q6 hr]at hfr;cases hfr
   refine F.rep.ext ⟨fun g hg=>?_,fun g _=>rfl⟩ _ _ h4;rcases hg with hg|⟨b,_,hg⟩
   ·rcases q9.mF g hg with h5|h5|h5
    ·exact .inl ⟨hr2,h5⟩
    ·exact(hWO g h5).elim
    ·exact .inr ⟨h5,(q8.fz g hg).1⟩
   ·rcases q9.own b g hg with h5|h5
    ·exact(hWO g h5).elim
    ·exact .inr ⟨h5,q8.lt b g hg⟩
 rw[pd hfn hbd,hNn];exact q1
include hX in
end
attribute [irreducible] Sn
abbrev Rn:=List (Nat×Nat)
def cc:Rn→Nat→Nat→Nat→Option Nat
 |[],_,_,_=>none
 |(b',v')::m,b,v,i=>bif Nat.beq b b' then(bif Nat.beq v v' then some i else none)else cc m b v (i+1)
mutual
def bj(m:Rn):D→Option D
 |.fr x=>some (.fr x)
 |.fx r=>some (.fx r)
 |.ag l=>match aO m l with|some l=>some (.ag l)|none=>none
 |.tp l=>match aO m l with|some l=>some (.tp l)|none=>none
 |.cl f l=>match aO m l with|some l=>some (.cl f l)|none=>none
 |.mcl f k l=>match aO m k,aO m l with|some k,some l=>some (.mcl f k l)|_,_=>none
 |.ptr b v o=>match cc m b v 0 with|some i=>some (.ptr i 0 o)|none=>none
 |.rp b v sz j o=>match cc m b v 0 with|some i=>some (.rp i 0 sz j o)|none=>none
 |.own b v=>match cc m b v 0 with|some i=>some (.own i 0)|none=>none
 |.mv b v=>match cc m b v 0 with|some i=>some (.mv i 0)|none=>none
 |.yl b v=>match cc m b v 0 with|some i=>some (.yl i 0)|none=>none
 |.sub b v sz lo hi ex=>match cc m b v 0 with|some i=>some (.sub i 0 sz lo hi ex)|none=>none
def aO(m:Rn):List D→Option (List D)
 |[]=>some []
 |d::l=>match bj m d,aO m l with|some d,some l=>some (d::l)|_,_=>none
end
def zz(m:Rn)(s:List (Nat×D)):List Nat→List (Nat×D)
 |[]=>[]
 |k::ks=>match lk s k with
  |some d=>(match bj m d with
   |some d=>(k,d)::zz m s ks
   |none=>zz m s ks)
  |none=>zz m s ks
def ez(m:Rn)(kc:List Nat):B→Option B
 |.va v t cs=>match aO m cs with|some cs=>some (.va 0 t cs)|none=>none
 |.ro v e sz rows=>some (.ro 0 e sz rows)
 |.gone _=>none
 |.mp v rows=>some (.mp 0 rows)
 |.lp v l=>match cc m l.db l.dv 0 with|some i=>some (.lp 0 { l with s:=zz m l.s kc,db:=i,dv:=0 })|none=>none
 |.df v=>some (.df 0)
 |.gh v vs ds=>match aO m ds with|some ds=>some (.gh 0 vs ds)|none=>none
 |.ab v a=>some (.ab 0 a)
def cG(m:Rn)(kc:List Nat)(h:List (Nat×B)):Rn→Nat→Option (List (Nat×B))
 |[],_=>some []
 |(b,v)::l,i=>match lk h b with
  |some x=>bif Nat.beq x.ver v then(match ez m kc x,cG m kc h l (i+1)with
   |some x,some h=>some ((i,x)::h)
   |_,_=>none)else none
  |none=>none
def GR(m:Rn):List KI→Option (List KI)
 |[]=>some []
 |x::l=>match(match x with
   |.rf b v=>(match cc m b v 0 with|some i=>some (.rf i 0)|none=>none)
   |.erf b v=>(match cc m b v 0 with|some i=>some (.erf i 0)|none=>none)
   |x=>some x),GR m l with
  |some x,some l=>some (x::l)
  |_,_=>none
def H5(m:Rn):List (Nat×Nat)→Option (List (Nat×Nat))
 |[]=>some []
 |(b,v)::l=>match cc m b v 0,H5 m l with
  |some i,some l=>some ((i,0)::l)
  |_,_=>none
def Dg(m:Rn):Option (Nat×Nat)→Option (Option (Nat×Nat))
 |none=>some none
 |some (b,v)=>match cc m b v 0 with|some i=>some (some (i,0))|none=>none
def x6(m:Rn)(keys:List Nat)(f:Fm):Option Fm:=match GR m f.k,H5 m f.ds,Dg m f.ro with
 |some k,some ds,some ro=>some { f with s:=zz m f.s keys,k:=k,ds:=ds,ro:=ro }
 |_,_,_=>none
def lC(m:Rn)(kc:List Nat):List Fm→Option (List Fm)
 |[]=>some []
 |f::l=>match x6 m kc f,lC m kc l with
  |some f,some l=>some (f::l)
  |_,_=>none
def bL:Rn→Bool
 |[]=>true
 |(b,_)::m=>!(m.any fun p=>Nat.beq p.1 b)&&bL m
def cut(m:Rn)(kc keys:List Nat)(g:Cfg):Option Cfg:=bif bL m then(match x6 m keys g.top,lC m kc g.cs,cG m kc g.h m 0 with
 |some top,some cs,some h=>some ⟨top,cs,h,m.length⟩
 |_,_,_=>none)else none
def rι(m:Rn)(c:Cf):Nat→Nat→Option (Option Addr×Nat×Nat):=fun i v=>match v,m[i]? with
 |0,some (b,v)=>c.ι b v
 |_,_=>none
def rC(m:Rn)(c:Cf):Cf:=⟨rι m c,c.R,c.Z⟩
def rO(m:Rn)(O:Nat→Nat→Prop):Nat→Nat→Prop:=fun i g=>∃b v,m[i]?=some (b,v)∧O b g
theorem dK:∀{m:Rn}{b v i j:Nat},cc m b v i=some j→i≤j∧m[j-i]?=some (b,v)
 |[],b,v,i,j,h=>by cases h
 |(b',v')::m,b,v,i,j,h=>by
  simp only[cc]at h
  cases hb:Nat.beq b b' with
  |true=>
   rw[hb]at h
   cases hv:Nat.beq v v' with
   |true=>
    rw[hv]at h;simp at h;subst h;rw[Nat.eq_of_beq_eq_true hb,Nat.eq_of_beq_eq_true hv];simp
   |false=>rw[hv]at h;cases h
  |false=>
   rw[hb]at h;obtain⟨h1,h2⟩:=dK (m:=m) h;refine⟨by omega,?_⟩;rw[show j-i=(j-(i+1))+1 by omega];simpa using h2
theorem fZ{m:Rn}{b v i:Nat}{c:Cf}(h:cc m b v 0=some i):(rC m c).ι i 0=c.ι b v:=by
 have:=(dK h).2;rw[Nat.sub_zero]at this;simp[rC,rι,this]
section
variable {m:Rn}{kc:List Nat}{c:Cf}
mutual
theorem pa:∀{d d':D}{u:Value},bj m d=some d'→D.rep c d u→D.rep (rC m c) d' u
 |.fr x,d',u,h,hd=>by simp only[bj]at h;cases h;unfold D.rep at hd ⊢;exact hd
 |.fx x,d',u,h,hd=>by simp only[bj]at h;cases h;unfold D.rep at hd ⊢;exact hd
 |.ag l,d',u,h,hd=>by
  simp only[bj]at h
  split at h<;>cases h
  rename_i l' hl;unfold D.rep at hd ⊢;obtain⟨vs,h1,h2⟩:=hd;exact⟨vs,h1,bR hl h2⟩
 |.tp l,d',u,h,hd=>by
  simp only[bj]at h
  split at h<;>cases h
  rename_i l' hl;unfold D.rep at hd ⊢;obtain⟨vs,h1,h2⟩:=hd;exact⟨vs,h1,bR hl h2⟩
 |.cl f l,d',u,h,hd=>by
  simp only[bj]at h
  split at h<;>cases h
  rename_i l' hl;unfold D.rep at hd ⊢;obtain⟨vs,h1,h2⟩:=hd;exact⟨vs,h1,bR hl h2⟩
 |.mcl f k l,d',u,h,hd=>by
  simp only[bj]at h
  split at h<;>cases h
  rename_i k' l' hk hl;unfold D.rep at hd ⊢;obtain⟨us,vs,h1,h2,h3⟩:=hd;exact⟨us,vs,h1,bR hk h2,bR hl h3⟩
 |.ptr b v o,d',u,h,hd=>by
  simp only[bj]at h
  split at h<;>cases h
  rename_i i hi;unfold D.rep at hd ⊢
  rwa [fZ hi]
 |.rp b v sz j o,d',u,h,hd=>by
  simp only[bj]at h
  split at h<;>cases h
  rename_i i hi;unfold D.rep at hd ⊢
  rwa [fZ hi]
 |.own b v,d',u,h,hd=>by
  simp only[bj]at h
  split at h<;>cases h
  rename_i i hi;unfold D.rep at hd ⊢
  rwa [fZ hi]
 |.mv b v,d',u,h,hd=>by
  simp only[bj]at h
  split at h<;>cases h
  rename_i i hi;unfold D.rep at hd ⊢
  rwa [fZ hi]
 |.yl b v,d',u,h,hd=>by
  simp only[bj]at h
  split at h<;>cases h
  rename_i i hi;unfold D.rep at hd ⊢
  rwa [fZ hi]
 |.sub b v sz lo hi ex,d',u,h,hd=>by
  simp only[bj]at h
  split at h<;>cases h
  rename_i i hi;unfold D.rep at hd ⊢
  rwa [fZ hi]
theorem bR:∀{d d':List D}{u:List Value},aO m d=some d'→D.ah c d u→D.ah (rC m c) d' u
 |[],d',u,h,hd=>by simp only[aO]at h;cases h;unfold D.ah at hd ⊢;exact hd
 |x::l,d',u,h,hd=>by
  simp only[aO]at h
  split at h<;>cases h
  rename_i x' l' hx hl;unfold D.ah at hd ⊢;obtain⟨a,b,h1,h2,h3⟩:=hd;exact⟨a,b,h1,pa hx h2,bR hl h3⟩
end
theorem pn{s:List (Nat×D)}:∀{ks:List Nat}{k:Nat}{d:D},lk (zz m s ks) k=some d→∃d',lk s k=some d'∧bj m d'=some d
 |[],k,d,h=>by cases h
 |j::ks,k,d,h=>by
  simp only[zz]at h
  split at h
  ·rename_i d1 h1
   split at h
   ·rename_i d2 h2;simp only[lk]at h
    cases e:Nat.beq j k with
    |true=>
     rw[e]at h;simp at h;subst h;have:=Nat.eq_of_beq_eq_true e;subst this;exact⟨d1,h1,h2⟩
    |false=>rw[e]at h;exact pn h
   ·exact pn h
  ·exact pn h
theorem Dn{N:Nat}{s:List (Nat×D)}{ks:List Nat}{tmps:Array Value}(h:bC c N s tmps):bC (rC m c) N (zz m s ks) tmps:=⟨h.size,fun k d hk=>by
 obtain⟨d',h1,h2⟩:=pn hk;exact pa h2 (h.get k d' h1)⟩
theorem C5{b i:Nat}{x x':B}{S:Nat→Prop}{w:World}(hi:m[i]?=some (b,x.ver))(h:ez m kc x=some x')(hx:x.on c b S w):x'.on (rC m c) i S w:=by
 have hι:(rC m c).ι i 0=c.ι b x.ver:=by simp[rC,rι,hi]
 cases x with
 |va v t cs=>
  simp only[ez]at h
  split at h<;>cases h
  rename_i cs' hcs;obtain⟨g,vs,h1,h2,h3,h4⟩:=hx;exact⟨g,vs,hι.trans h1,bR hcs h2,h3,h4⟩
 |ro v e sz rows=>
  simp only[ez]at h
  cases h;obtain⟨A,k,vr,h1,h2,h3,h4⟩:=hx;exact⟨A,k,vr,hι.trans h1,h2,h3,h4⟩
 |gone v=>cases h
 |mp v rows=>
  simp only[ez]at h
  cases h;obtain⟨g,es,k,h1,h2,h3,h4⟩:=hx;exact⟨g,es,k,hι.trans h1,h2,h3,h4⟩
 |lp v l=>
  simp only[ez]at h
  split at h<;>cases h
  rename_i j hj;obtain⟨g,L,gd,h1,h2,h3,h4,h5,h6,h7,h8,h9,h10,h11,h12⟩:=hx;exact⟨g,L,gd,hι.trans h1,h2,h3,h4,h5,h6,h7,h8,h9,Dn h10,(fZ hj).trans h11,h12⟩
 |df v=>
  simp only[ez]at h
  cases h;obtain⟨gs,h1,h2,h3⟩:=hx;exact⟨gs,h1.of hι,h2,h3⟩
 |gh v vs ds=>
  simp only[ez]at h
  split at h<;>cases h
  rename_i ds' hds;exact bR hds hx
 |ab v a=>
  simp only[ez]at h
  cases h;obtain⟨g,h1,h2⟩:=hx;exact⟨g,hι.trans h1,h2⟩
theorem gR{h:List (Nat×B)}:∀{l:Rn}{i:Nat}{h':List (Nat×B)}{j:Nat}{x':B},cG m kc h l i=some h'→lk h' j=some x'→i≤j∧∃b x,l[j-i]?=some (b,x.ver)∧lk h b=some x∧ez m kc x=some x'
 |[],i,h',j,x',e,hj=>by simp only[cG]at e;cases e;cases hj
 |(b,v)::l,i,h',j,x',e,hj=>by
  simp only[cG]at e
  split at e
  ·rename_i x hx
   cases hv:Nat.beq x.ver v with
   |false=>rw[hv]at e;cases e
   |true=>
    rw[hv]at e;simp only[cond_true]at e;have hv:=Nat.eq_of_beq_eq_true hv
    split at e<;>cases e
    rename_i y h2 hy hh;simp only[lk]at hj
    cases hij:Nat.beq i j with
    |true=>
     rw[hij]at hj;simp at hj;subst hj;have:=Nat.eq_of_beq_eq_true hij;subst this;exact⟨Nat.le_refl _,b,x,by simp[hv],hx,hy⟩
    |false=>
     rw[hij]at hj;obtain⟨q1,b',x1,q2,q3,q4⟩:=gR hh hj;refine⟨by omega,b',x1,?_,q3,q4⟩;rw[show j-i=(j-(i+1))+1 by omega];simpa using q2
  ·cases e
theorem ph{h:List (Nat×B)}:∀{l:Rn}{i:Nat}{h':List (Nat×B)}{j:Nat}{p:Nat×Nat},cG m kc h l i=some h'→l[j]?=some p→∃x',lk h' (i+j)=some x'
 |[],i,h',j,p,e,hj=>by simp at hj
 |(b,v)::l,i,h',j,p,e,hj=>by
  simp only[cG]at e
  split at e
  ·rename_i x hx
   cases hv:Nat.beq x.ver v with
   |false=>rw[hv]at e;cases e
   |true=>
    rw[hv]at e;simp only[cond_true]at e
    split at e<;>cases e
    rename_i y h2 hy hh
    cases j with
    |zero=>exact⟨y,by simp[lk]⟩
    |succ j=>
     obtain⟨x',hx'⟩:=ph (j:=j) (p:=p) hh (by simpa using hj);refine⟨x',?_⟩;simp only[lk];rw[show Nat.beq i (i+(j+1))=false from by rw[←Bool.not_eq_true];intro e;have:=Nat.eq_of_beq_eq_true e;omega];rw[show i+(j+1)=i+1+j by omega];exact hx'
  ·cases e
theorem oT:∀{m:Rn}{i j b v v':Nat},bL m=true→m[i]?=some (b,v)→m[j]?=some (b,v')→i=j
 |[],i,j,b,v,v',_,hi,_=>by simp at hi
 |(b0,v0)::m,i,j,b,v,v',h,hi,hj=>by
  simp only[bL,Bool.and_eq_true,Bool.not_eq_true',List.any_eq_false]at h;obtain⟨h1,h2⟩:=h
  cases i with
  |zero=>
   cases j with
   |zero=>rfl
   |succ j=>
    simp at hi hj;obtain⟨rfl,rfl⟩:=hi;exact absurd (by simp) (h1 _ (List.mem_of_getElem? hj))
  |succ i=>
   cases j with
   |zero=>
    simp at hi hj;obtain⟨rfl,rfl⟩:=hj;exact absurd (by simp) (h1 _ (List.mem_of_getElem? hi))
   |succ j=>
    simp at hi hj;rw[oT h2 hi hj]
theorem CM:∀{k k':List KI}{t:List Item},GR m k=some k'→KIs c k t→KIs (rC m c) k' t
 |[],k',t,h,ht=>by simp only[GR]at h;cases h;exact ht
 |x::l,k',t,h,⟨it,t',e,hx,hl⟩=>by
  simp only[GR]at h
  split at h<;>cases h
  rename_i y l' hy hl';refine⟨it,t',e,?_,CM hl' hl⟩
  cases x with
  |rf b v=>
   simp only at hy
   split at hy<;>cases hy
   rename_i i hi;obtain⟨g,h1,h2⟩:=hx;exact⟨g,h1,(fZ hi).trans h2⟩
  |erf b v=>
   simp only at hy
   split at hy<;>cases hy
   rename_i i hi;obtain⟨g,h1,h2⟩:=hx;exact⟨g,h1,(fZ hi).trans h2⟩
  |_=>simp only at hy;cases hy;exact hx
theorem B8:∀{k k':List (Nat×Nat)}{t:List Deferred},H5 m k=some k'→bH c k t→bH (rC m c) k' t
 |[],k',t,h,ht=>by simp only[H5]at h;cases h;exact ht
 |(b,v)::l,k',t,h,⟨g,t',e,hx,hl⟩=>by
  simp only[H5]at h
  split at h<;>cases h
  rename_i i l' hi hl';exact⟨g,t',e,hx.of (fZ hi),B8 hl' hl⟩
theorem Fc{r:Option (Nat×Nat)}{r':Option (Nat×Nat)}{t:Option Nat}(h:Dg m r=some r')(ht:jK c r t):jK (rC m c) r' t:=by
 cases r with
 |none=>simp only[Dg]at h;cases h;exact ht
 |some p=>
  simp only[Dg]at h
  split at h<;>cases h
  rename_i i hi;obtain⟨g,h1,h2⟩:=ht;exact⟨g,h1,(fZ hi).trans h2⟩
theorem zt{ks:List Nat}{f f':Fm}{fr:Frame}(h:x6 m ks f=some f')(hf:sy c f fr):sy (rC m c) f' fr∧f'.f=f.f:=by
 simp only[x6]at h
 split at h<;>cases h
 rename_i k ds ro h1 h2 h3;obtain⟨a,todo,r,g1,g2,g3,g4,g5⟩:=hf;exact⟨⟨a,todo,r,g1,Dn g2,CM h1 g3,B8 h2 g4,Fc h3 g5⟩,rfl⟩
theorem v8:∀{l l':List Fm}{t:List Frame},lC m kc l=some l'→Fms c l t→Fms (rC m c) l' t
 |[],l',t,h,ht=>by simp only[lC]at h;cases h;exact ht
 |x::l,l',t,h,⟨fr,t',e,hx,hl⟩=>by
  simp only[lC]at h
  split at h<;>cases h
  rename_i y l2 hy hl';exact⟨fr,t',e,(zt hy hx).1,v8 hl' hl⟩
theorem qV:∀{l l':List Fm}{f f':Fm},f'.f=f.f→lC m kc l=some l'→eG f' l'=eG f l
 |[],l',f,f',e,h=>by simp only[lC]at h;cases h;exact e
 |x::l,l',f,f',e,h=>by
  simp only[lC]at h
  split at h<;>cases h
  rename_i y l2 hy hl';show eG y l2=eG x l
  refine qV ?_ hl';simp only[x6]at hy
  split at hy<;>cases hy
  rfl
end
theorem Sn.cut{ρ:Type}[ix ρ]{P:Program}{X:Tx}{f0:Nat}{r:ρ}{m:Rn}{kc keys:List Nat}{g g':Cfg}(hc:Km.cut m kc keys g=some g')(h:Sn P X f0 r g'):Sn P X f0 r g:=by
 unfold Km.cut at hc
 cases ho:bL m with
 |false=>rw[ho]at hc;cases hc
 |true=>
  rw[ho]at hc;simp only[cond_true]at hc
  split at hc<;>cases hc
  rename_i top cs h' h1 h2 h3;unfold Sn at h ⊢;intro W cs0 hΓ c O fr frs w hr;obtain⟨q1,q2⟩:=zt h1 hr.top;refine h W cs0 hΓ (rC m c) (rO m O) fr frs w ⟨q1,v8 h2 hr.cs,⟨fun i x' hx'=>?_,fun i v y hy=>?_,fun i j g hi hj=>?_,fun g hg=>?_,fun i g hi=>?_⟩,⟨hr.old.os,hr.old.tape,hr.old.output,hr.old.size,hr.old.cv,fun i g hi=>?_,hr.old.mF,hr.old.le⟩,(qV q2 h2).trans hr.bot⟩
  ·obtain⟨_,b,x,k1,k2,k3⟩:=gR h3 hx';rw[Nat.sub_zero]at k1;have hS:rO m O i=O b:=funext fun g=>propext ⟨fun⟨b',v',e,hO⟩=>by rw[k1]at e;cases e;exact hO,fun hO=>⟨b,_,k1,hO⟩⟩
   rw[hS];exact C5 k1 k3 (hr.hp.pc b x k2)
  ·simp only[rC,rι]at hy
   split at hy
   ·rename_i b v0 hm;obtain⟨x',hx'⟩:=ph h3 hm;rw[Nat.zero_add]at hx';exact⟨x',hx',Nat.zero_le _⟩
   ·cases hy
  ·obtain⟨b,v,e1,o1⟩:=hi;obtain⟨b',v',e2,o2⟩:=hj;have:=hr.hp.apart b b' g o1 o2;subst this;exact oT ho e1 e2
  ·obtain⟨k1,k2,k3⟩:=hr.hp.fz g hg;exact⟨k1,k2,fun i ⟨b,v,_,o⟩=>k3 b o⟩
  ·obtain⟨b,v,_,o⟩:=hi;exact hr.hp.lt b g o
  ·obtain⟨b,v,_,o⟩:=hi;exact hr.old.own b g o
mutual
def hnd:D→List (Nat×Nat)
 |.ag l=>rH l
 |.tp l=>rH l
 |.cl _ l=>rH l
 |.mcl _ k l=>rH k++rH l
 |.ptr b v _=>[(b,v)]
 |.rp b v _ _ _=>[(b,v)]
 |.own b v=>[(b,v)]
 |.mv b v=>[(b,v)]
 |.yl b v=>[(b,v)]
 |.sub b v _ _ _ _=>[(b,v)]
 |_=>[]
def rH:List D→List (Nat×Nat)
 |[]=>[]
 |d::l=>hnd d++rH l
end
def Jr(s:List (Nat×D)):List Nat→List (Nat×Nat)
 |[]=>[]
 |k::ks=>match lk s k with
  |some d=>hnd d++Jr s ks
  |none=>Jr s ks
def JT:List KI→List (Nat×Nat)
 |[]=>[]
 |.rf b v::l=>(b,v)::JT l
 |.erf b v::l=>(b,v)::JT l
 |_::l=>JT l
def Kx(keys:List Nat)(f:Fm):List (Nat×Nat):=Jr f.s keys++JT f.k++f.ds++f.ro.toList
def Ob(kc:List Nat):B→List (Nat×Nat)
 |.va _ _ cs=>rH cs
 |.lp _ l=>(l.db,l.dv)::Jr l.s kc
 |.gh _ _ ds=>rH ds
 |_=>[]
def MJ(h:List (Nat×B))(b v:Nat):Bool:=match lk h b with
 |some (.gone _)=>false
 |some x=>Nat.beq x.ver v
 |none=>false
def reach(kc:List Nat)(h:List (Nat×B)):Nat→List (Nat×Nat)→Rn→Rn
 |0,_,m=>m
 |_,[],m=>m
 |n+1,(b,v)::l,m=>bif m.any (fun p=>Nat.beq p.1 b) || !MJ h b v then reach kc h n l m else reach kc h n (Ob kc ((lk h b).getD (.gone 0))++l) (m++[(b,v)])
def iF:List (Nat×B)→List (Nat×Nat)
 |[]=>[]
 |(b,.gh v _ _)::l=>(b,v)::iF l
 |_::l=>iF l
def roots(kc keys:List Nat)(g:Cfg):List (Nat×Nat):=Kx keys g.top++(g.cs.flatMap fun f=>Kx kc f)++iF g.h
def short(kc keys:List Nat)(g:Cfg):Option Cfg:=cut (reach kc g.h 10000 (roots kc keys g) []) kc keys g
theorem Sn.short{ρ:Type}[ix ρ]{P:Program}{X:Tx}{f0:Nat}{r:ρ}(kc keys:List Nat){g g':Cfg}(hc:Km.short kc keys g=some g')(h:Sn P X f0 r g'):Sn P X f0 r g:=Sn.cut hc h
end Go.Km
end
section
namespace Go.Proofs.YtpbichnnflabdaaGreatDoor
open Go Go.Sl Go.Vc Go.Km
set_option maxRecDepth 100000
noncomputable def fiR(f:Func):Fi:=⟨f.body.getD .skip,f.ntmps,f.results.toList⟩
def Ec(f:Nat)(i:Fi):Prop:=CF Tryz.prog f∧∃fn,Tryz.prog.funcs[f]?=some fn∧fn.body=some i.body∧fn.ntmps=i.N∧fn.results.toList=i.rs
theorem fk{f:Nat}{fn:Func}(h:Tryz.prog.funcs[f]?=some fn)(c:(!(fn.name== "runtime.NumGoroutine") && !fn.body.isNone)=true:=by kernel_rfl):Ec f (fiR fn):=by
 rw[Bool.and_eq_true,Bool.not_eq_true',Bool.not_eq_true']at c;refine⟨CF.of h c.1 c.2,fn,h,?_,rfl,rfl⟩
 cases hb:fn.body with
 |none=>rw[hb]at c;cases c.2
 |some b=>show some b=some (fn.body.getD .skip);rw[hb];rfl
noncomputable def fiL:List (Nat×Fi):=[(4,fiR Tryz.f4),(5,fiR Tryz.f5),(6,fiR Tryz.f6),(7,fiR Tryz.f7),(8,fiR Tryz.f8),(9,fiR Tryz.f9),(10,fiR Tryz.f10),(11,fiR Tryz.f11),(13,fiR Tryz.f13),(14,fiR Tryz.f14),(15,fiR Tryz.f15),(16,fiR Tryz.f16),(17,fiR Tryz.f17),(18,fiR Tryz.f18),(19,fiR Tryz.f19),(20,fiR Tryz.f20),(21,fiR Tryz.f21),(22,fiR Tryz.f22),(23,fiR Tryz.f23),(24,fiR Tryz.f24),(25,fiR Tryz.f25),(26,fiR Tryz.f26),(27,fiR Tryz.f27),(28,fiR Tryz.f28),(29,fiR Tryz.f29),(30,fiR Tryz.f30),(31,fiR Tryz.f31),(32,fiR Tryz.f32),(33,fiR Tryz.f33),(34,fiR Tryz.f34),(35,fiR Tryz.f35),(36,fiR Tryz.f36),(37,fiR Tryz.f37),(38,fiR Tryz.f38),(39,fiR Tryz.f39),(40,fiR Tryz.f40),(41,fiR Tryz.f41),(42,fiR Tryz.f42),(43,fiR Tryz.f43),(44,fiR Tryz.f44),(45,fiR Tryz.f45),(46,fiR Tryz.f46),(47,fiR Tryz.f47),(48,fiR Tryz.f48),(49,fiR Tryz.f49),(50,fiR Tryz.f50),(51,fiR Tryz.f51),(52,fiR Tryz.f52),(53,fiR Tryz.f53),(54,fiR Tryz.f54),(55,fiR Tryz.f55),(56,fiR Tryz.f56),(57,fiR Tryz.f57),(58,fiR Tryz.f58),(59,fiR Tryz.f59),(60,fiR Tryz.f60),(61,fiR Tryz.f61),(62,fiR Tryz.f62),(63,fiR Tryz.f63),(64,fiR Tryz.f64),(65,fiR Tryz.f65),(66,fiR Tryz.f66),(67,fiR Tryz.f67),(68,fiR Tryz.f68),(69,fiR Tryz.f69),(70,fiR Tryz.f70),(71,fiR Tryz.f71),(72,fiR Tryz.f72),(73,fiR Tryz.f73),(74,fiR Tryz.f74),(75,fiR Tryz.f75),(76,fiR Tryz.f76),(77,fiR Tryz.f77),(78,fiR Tryz.f78),(79,fiR Tryz.f79),(80,fiR Tryz.f80),(81,fiR Tryz.f81),(82,fiR Tryz.f82),(83,fiR Tryz.f83),(84,fiR Tryz.f84),(85,fiR Tryz.f85),(86,fiR Tryz.f86),(87,fiR Tryz.f87),(88,fiR Tryz.f88),(89,fiR Tryz.f89),(90,fiR Tryz.f90),(91,fiR Tryz.f91),(92,fiR Tryz.f92),(93,fiR Tryz.f93),(94,fiR Tryz.f94),(95,fiR Tryz.f95),(96,fiR Tryz.f96),(97,fiR Tryz.f97),(98,fiR Tryz.f98),(99,fiR Tryz.f99),(100,fiR Tryz.f100),(101,fiR Tryz.f101),(102,fiR Tryz.f102),(103,fiR Tryz.f103),(104,fiR Tryz.f104),(105,fiR Tryz.f105),(106,fiR Tryz.f106),(107,fiR Tryz.f107),(108,fiR Tryz.f108),(109,fiR Tryz.f109),(110,fiR Tryz.f110),(111,fiR Tryz.f111),(112,fiR Tryz.f112),(113,fiR Tryz.f113),(114,fiR Tryz.f114),(115,fiR Tryz.f115),(116,fiR Tryz.f116),(117,fiR Tryz.f117),(118,fiR Tryz.f118),(119,fiR Tryz.f119),(120,fiR Tryz.f120),(121,fiR Tryz.f121),(122,fiR Tryz.f122),(123,fiR Tryz.f123),(124,fiR Tryz.f124),(125,fiR Tryz.f125),(126,fiR Tryz.f126),(127,fiR Tryz.f127),(128,fiR Tryz.f128),(129,fiR Tryz.f129),(130,fiR Tryz.f130),(131,fiR Tryz.f131),(132,fiR Tryz.f132),(133,fiR Tryz.f133),(134,fiR Tryz.f134),(135,fiR Tryz.f135),(136,fiR Tryz.f136),(137,fiR Tryz.f137),(138,fiR Tryz.f138),(139,fiR Tryz.f139),(140,fiR Tryz.f140),(141,fiR Tryz.f141),(142,fiR Tryz.f142),(143,fiR Tryz.f143),(144,fiR Tryz.f144),(145,fiR Tryz.f145),(146,fiR Tryz.f146),(147,fiR Tryz.f147),(148,fiR Tryz.f148),(149,fiR Tryz.f149),(150,fiR Tryz.f150),(151,fiR Tryz.f151),(152,fiR Tryz.f152),(153,fiR Tryz.f153),(154,fiR Tryz.f154),(155,fiR Tryz.f155),(156,fiR Tryz.f156),(157,fiR Tryz.f157),(158,fiR Tryz.f158),(159,fiR Tryz.f159),(160,fiR Tryz.f160),(161,fiR Tryz.f161),(162,fiR Tryz.f162),(163,fiR Tryz.f163),(164,fiR Tryz.f164),(165,fiR Tryz.f165),(166,fiR Tryz.f166),(167,fiR Tryz.f167),(168,fiR Tryz.f168),(169,fiR Tryz.f169),(170,fiR Tryz.f170),(171,fiR Tryz.f171),(172,fiR Tryz.f172),(173,fiR Tryz.f173),(174,fiR Tryz.f174),(175,fiR Tryz.f175),(176,fiR Tryz.f176),(177,fiR Tryz.f177),(178,fiR Tryz.f178),(179,fiR Tryz.f179),(180,fiR Tryz.f180),(181,fiR Tryz.f181),(182,fiR Tryz.f182),(184,fiR Tryz.f184),(185,fiR Tryz.f185),(186,fiR Tryz.f186),(187,fiR Tryz.f187),(188,fiR Tryz.f188),(189,fiR Tryz.f189),(190,fiR Tryz.f190),(191,fiR Tryz.f191),(192,fiR Tryz.f192),(193,fiR Tryz.f193),(194,fiR Tryz.f194),(195,fiR Tryz.f195),(196,fiR Tryz.f196),(197,fiR Tryz.f197),(198,fiR Tryz.f198),(199,fiR Tryz.f199),(200,fiR Tryz.f200),(201,fiR Tryz.f201),(203,fiR Tryz.f203),(204,fiR Tryz.f204)]
theorem Hm:∀(l:List (Nat×Fi)),(∀p∈l,Ec p.1 p.2)→∀f i,Vc.lk l f=some i→Ec f i
 |[],_,f,i,h=>by cases h
 |(k,x)::l,hl,f,i,h=>by
  simp only[Vc.lk]at h
  cases e:Nat.beq k f with
  |true=>
   rw[e]at h;simp at h;subst h;have:=Nat.eq_of_beq_eq_true e;subst this;exact hl (k,x) (by simp)
  |false=>
   rw[e]at h;exact Hm l (fun p hp=>hl p (by simp[hp])) f i h
def zy:List (Nat×Fi)→Prop
 |[]=>True
 |p::l=>Ec p.1 p.2∧zy l
theorem zy.mem:∀{l:List (Nat×Fi)},zy l→∀p∈l,Ec p.1 p.2
 |[],_,p,h=>by cases h
 |q::l,⟨h1,h2⟩,p,h=>by
  rcases List.mem_cons.1 h with rfl|h
  ·exact h1
  ·exact zy.mem h2 p h
theorem GM:∀f i,Vc.lk fiL f=some i→Ec f i:=Hm fiL (zy.mem (⟨fk Tryz.func4,⟨fk Tryz.func5,⟨fk Tryz.func6,⟨fk Tryz.func7,⟨fk Tryz.func8,⟨fk Tryz.func9,⟨fk Tryz.func10,⟨fk Tryz.func11,⟨fk Tryz.func13,⟨fk Tryz.func14,⟨fk Tryz.func15,⟨fk Tryz.func16,⟨fk Tryz.func17,⟨fk Tryz.func18,⟨fk Tryz.func19,⟨fk Tryz.func20,⟨fk Tryz.func21,⟨fk Tryz.func22,⟨fk Tryz.func23,⟨fk Tryz.func24,⟨fk Tryz.func25,⟨fk Tryz.func26,⟨fk Tryz.func27,⟨fk Tryz.func28,⟨fk Tryz.func29,⟨fk Tryz.func30,⟨fk Tryz.func31,⟨fk Tryz.func32,⟨fk Tryz.func33,⟨fk Tryz.func34,⟨fk Tryz.func35,⟨fk Tryz.func36,⟨fk Tryz.func37,⟨fk Tryz.func38,⟨fk Tryz.func39,⟨fk Tryz.func40,⟨fk Tryz.func41,⟨fk Tryz.func42,⟨fk Tryz.func43,⟨fk Tryz.func44,⟨fk Tryz.func45,⟨fk Tryz.func46,⟨fk Tryz.func47,⟨fk Tryz.func48,⟨fk Tryz.func49,⟨fk Tryz.func50,⟨fk Tryz.func51,⟨fk Tryz.func52,⟨fk Tryz.func53,⟨fk Tryz.func54,⟨fk Tryz.func55,⟨fk Tryz.func56,⟨fk Tryz.func57,⟨fk Tryz.func58,⟨fk Tryz.func59,⟨fk Tryz.func60,⟨fk Tryz.func61,⟨fk Tryz.func62,⟨fk Tryz.func63,⟨fk Tryz.func64,⟨fk Tryz.func65,⟨fk Tryz.func66,⟨fk Tryz.func67,⟨fk Tryz.func68,⟨fk Tryz.func69,⟨fk Tryz.func70,⟨fk Tryz.func71,⟨fk Tryz.func72,⟨fk Tryz.func73,⟨fk Tryz.func74,⟨fk Tryz.func75,⟨fk Tryz.func76,⟨fk Tryz.func77,⟨fk Tryz.func78,⟨fk Tryz.func79,⟨fk Tryz.func80,⟨fk Tryz.func81,⟨fk Tryz.func82,⟨fk Tryz.func83,⟨fk Tryz.func84,⟨fk Tryz.func85,⟨fk Tryz.func86,⟨fk Tryz.func87,⟨fk Tryz.func88,⟨fk Tryz.func89,⟨fk Tryz.func90,⟨fk Tryz.func91,⟨fk Tryz.func92,⟨fk Tryz.func93,⟨fk Tryz.func94,⟨fk Tryz.func95,⟨fk Tryz.func96,⟨fk Tryz.func97,⟨fk Tryz.func98,⟨fk Tryz.func99,⟨fk Tryz.func100,⟨fk Tryz.func101,⟨fk Tryz.func102,⟨fk Tryz.func103,⟨fk Tryz.func104,⟨fk Tryz.func105,⟨fk Tryz.func106,⟨fk Tryz.func107,⟨fk Tryz.func108,⟨fk Tryz.func109,⟨fk Tryz.func110,⟨fk Tryz.func111,⟨fk Tryz.func112,⟨fk Tryz.func113,⟨fk Tryz.func114,⟨fk Tryz.func115,⟨fk Tryz.func116,⟨fk Tryz.func117,⟨fk Tryz.func118,⟨fk Tryz.func119,⟨fk Tryz.func120,⟨fk Tryz.func121,⟨fk Tryz.func122,⟨fk Tryz.func123,⟨fk Tryz.func124,⟨fk Tryz.func125,⟨fk Tryz.func126,⟨fk Tryz.func127,⟨fk Tryz.func128,⟨fk Tryz.func129,⟨fk Tryz.func130,⟨fk Tryz.func131,⟨fk Tryz.func132,⟨fk Tryz.func133,⟨fk Tryz.func134,⟨fk Tryz.func135,⟨fk Tryz.func136,⟨fk Tryz.func137,⟨fk Tryz.func138,⟨fk Tryz.func139,⟨fk Tryz.func140,⟨fk Tryz.func141,⟨fk Tryz.func142,⟨fk Tryz.func143,⟨fk Tryz.func144,⟨fk Tryz.func145,⟨fk Tryz.func146,⟨fk Tryz.func147,⟨fk Tryz.func148,⟨fk Tryz.func149,⟨fk Tryz.func150,⟨fk Tryz.func151,⟨fk Tryz.func152,⟨fk Tryz.func153,⟨fk Tryz.func154,⟨fk Tryz.func155,⟨fk Tryz.func156,⟨fk Tryz.func157,⟨fk Tryz.func158,⟨fk Tryz.func159,⟨fk Tryz.func160,⟨fk Tryz.func161,⟨fk Tryz.func162,⟨fk Tryz.func163,⟨fk Tryz.func164,⟨fk Tryz.func165,⟨fk Tryz.func166,⟨fk Tryz.func167,⟨fk Tryz.func168,⟨fk Tryz.func169,⟨fk Tryz.func170,⟨fk Tryz.func171,⟨fk Tryz.func172,⟨fk Tryz.func173,⟨fk Tryz.func174,⟨fk Tryz.func175,⟨fk Tryz.func176,⟨fk Tryz.func177,⟨fk Tryz.func178,⟨fk Tryz.func179,⟨fk Tryz.func180,⟨fk Tryz.func181,⟨fk Tryz.func182,⟨fk Tryz.func184,⟨fk Tryz.func185,⟨fk Tryz.func186,⟨fk Tryz.func187,⟨fk Tryz.func188,⟨fk Tryz.func189,⟨fk Tryz.func190,⟨fk Tryz.func191,⟨fk Tryz.func192,⟨fk Tryz.func193,⟨fk Tryz.func194,⟨fk Tryz.func195,⟨fk Tryz.func196,⟨fk Tryz.func197,⟨fk Tryz.func198,⟨fk Tryz.func199,⟨fk Tryz.func200,⟨fk Tryz.func201,⟨fk Tryz.func203,⟨fk Tryz.func204,trivial⟩⟩⟩⟩⟩⟩⟩⟩⟩⟩⟩⟩⟩⟩⟩⟩⟩⟩⟩⟩⟩⟩⟩⟩⟩⟩⟩⟩⟩⟩⟩⟩⟩⟩⟩⟩⟩⟩⟩⟩⟩⟩⟩⟩⟩⟩⟩⟩⟩⟩⟩⟩⟩⟩⟩⟩⟩⟩⟩⟩⟩⟩⟩⟩⟩⟩⟩⟩⟩⟩⟩⟩⟩⟩⟩⟩⟩⟩⟩⟩⟩⟩⟩⟩⟩⟩⟩⟩⟩⟩⟩⟩⟩⟩⟩⟩⟩⟩⟩⟩⟩⟩⟩⟩⟩⟩⟩⟩⟩⟩⟩⟩⟩⟩⟩⟩⟩⟩⟩⟩⟩⟩⟩⟩⟩⟩⟩⟩⟩⟩⟩⟩⟩⟩⟩⟩⟩⟩⟩⟩⟩⟩⟩⟩⟩⟩⟩⟩⟩⟩⟩⟩⟩⟩⟩⟩⟩⟩⟩⟩⟩⟩⟩⟩⟩⟩⟩⟩⟩⟩⟩⟩⟩⟩⟩⟩⟩⟩⟩⟩⟩⟩⟩⟩⟩⟩⟩⟩⟩⟩⟩⟩⟩⟩⟩⟩⟩⟩))
def LH:List (Nat×List F):=[(0,[.vl (.int .i64 0),.vl (.int .i64 0),.vl (.int .i64 0),.vl (.int .i64 0),.vl (.int .i64 0),.vl (.int .i64 0),.vl (.int .i64 0),.vl (.int .i64 0),.vl (.int .i64 2),.vl (.int .i64 (-1)),.vl (.int .i64 2),.vl (.int .i64 (-1)),.vl (.int .i64 1),.vl (.int .i64 1),.vl (.int .i64 1),.vl (.int .i64 1),.vl (.int .i64 1),.vl (.int .i64 1),.vl (.int .i64 1),.vl (.int .i64 1)]),
 (1,[.vl (.string ⟨#[]⟩),.vl (.string ⟨#[]⟩),.vl (.string ⟨#[]⟩),.vl (.string ⟨#[]⟩),.vl (.string ⟨#[]⟩),.vl (.string ⟨#[]⟩),.vl (.string ⟨#[]⟩),.vl (.string ⟨#[]⟩),.vl (.string ⟨#[]⟩),.vl (.string ⟨#[]⟩),.vl (.string ⟨#[]⟩),.vl (.string ⟨#[]⟩),.vl (.string ⟨#[]⟩),.vl (.string ⟨#[32]⟩),.vl (.string ⟨#[]⟩),.vl (.string ⟨#[]⟩),.vl (.string ⟨#[32,47,32]⟩),.vl (.string ⟨#[]⟩),.vl (.string ⟨#[]⟩),.vl (.string ⟨#[]⟩),.vl (.string ⟨#[]⟩),.vl (.string ⟨#[38]⟩),.vl (.string ⟨#[]⟩),.vl (.string ⟨#[]⟩),.vl (.string ⟨#[33]⟩),.vl (.string ⟨#[]⟩),.vl (.string ⟨#[]⟩),.vl (.string ⟨#[60]⟩),.vl (.string ⟨#[]⟩),.vl (.string ⟨#[62]⟩)]),
 (2,[.vl (.int .i64 0),.vl (.int .i64 1),.vl (.string ⟨#[63]⟩),.vl (.int .i64 0),.vl (.int .i64 (-1)),.vl (.string ⟨#[42]⟩),.vl (.int .i64 1),.vl (.int .i64 (-1)),.vl (.string ⟨#[43]⟩)]),
 (3,[.vl (.int .u8 0),.vl (.int .u8 1),.vl (.int .u8 56),.vl (.int .u8 2),.vl (.int .u8 57),.vl (.int .u8 49),.vl (.int .u8 28),.vl (.int .u8 3),.vl (.int .u8 61),.vl (.int .u8 58),.vl (.int .u8 42),.vl (.int .u8 50),.vl (.int .u8 38),.vl (.int .u8 29),.vl (.int .u8 17),.vl (.int .u8 4),.vl (.int .u8 62),.vl (.int .u8 47),.vl (.int .u8 59),.vl (.int .u8 36),.vl (.int .u8 45),.vl (.int .u8 43),.vl (.int .u8 51),.vl (.int .u8 22),.vl (.int .u8 53),.vl (.int .u8 39),.vl (.int .u8 33),.vl (.int .u8 30),.vl (.int .u8 24),.vl (.int .u8 18),.vl (.int .u8 12),.vl (.int .u8 5),.vl (.int .u8 63),.vl (.int .u8 55),.vl (.int .u8 48),.vl (.int .u8 27),.vl (.int .u8 60),.vl (.int .u8 41),.vl (.int .u8 37),.vl (.int .u8 16),.vl (.int .u8 46),.vl (.int .u8 35),.vl (.int .u8 44),.vl (.int .u8 21),.vl (.int .u8 52),.vl (.int .u8 32),.vl (.int .u8 23),.vl (.int .u8 11),.vl (.int .u8 54),.vl (.int .u8 26),.vl (.int .u8 40),.vl (.int .u8 15),.vl (.int .u8 34),.vl (.int .u8 20),.vl (.int .u8 31),.vl (.int .u8 10),.vl (.int .u8 25),.vl (.int .u8 14),.vl (.int .u8 19),.vl (.int .u8 9),.vl (.int .u8 13),.vl (.int .u8 8),.vl (.int .u8 7),.vl (.int .u8 6)]),
 (5,[.vl (.int .u64 1),.vl (.int .u64 10),.vl (.int .u64 100),.vl (.int .u64 1000),.vl (.int .u64 10000),.vl (.int .u64 100000),.vl (.int .u64 1000000),.vl (.int .u64 10000000),.vl (.int .u64 100000000),.vl (.int .u64 1000000000),.vl (.int .u64 10000000000),.vl (.int .u64 100000000000),.vl (.int .u64 1000000000000),.vl (.int .u64 10000000000000),.vl (.int .u64 100000000000000),.vl (.int .u64 1000000000000000),.vl (.int .u64 10000000000000000),.vl (.int .u64 100000000000000000),.vl (.int .u64 1000000000000000000),.vl (.int .u64 10000000000000000000)]),
 (6,[.vl (.int .u8 0),.vl (.int .u8 1),.vl (.int .u8 28),.vl (.int .u8 2),.vl (.int .u8 29),.vl (.int .u8 14),.vl (.int .u8 24),.vl (.int .u8 3),.vl (.int .u8 30),.vl (.int .u8 22),.vl (.int .u8 20),.vl (.int .u8 15),.vl (.int .u8 25),.vl (.int .u8 17),.vl (.int .u8 4),.vl (.int .u8 8),.vl (.int .u8 31),.vl (.int .u8 27),.vl (.int .u8 13),.vl (.int .u8 23),.vl (.int .u8 21),.vl (.int .u8 19),.vl (.int .u8 16),.vl (.int .u8 7),.vl (.int .u8 26),.vl (.int .u8 12),.vl (.int .u8 18),.vl (.int .u8 6),.vl (.int .u8 11),.vl (.int .u8 5),.vl (.int .u8 10),.vl (.int .u8 9)])]
end Go.Proofs.YtpbichnnflabdaaGreatDoor
end
section
namespace Go.Km
open Go Go.RowKit Go.Vc
open Go.Sl hiding lk
abbrev eR(c:Bool)(k:Prop):Prop:=@Bool.rec (fun _=>Prop) False k c
abbrev nN(c:Bool)(a b:Prop):Prop:=@Bool.rec (fun _=>Prop) b a c
abbrev x5{α:Type}(o:Option α)(k:α→Prop):Prop:=@Option.rec α (fun _=>Prop) False k o
abbrev Ns(n:Int)(k:Nat→Prop):Prop:=@Int.rec (fun _=>Prop) k (fun _=>False) n
structure FM(n:Int)(k:Int→Prop):Prop where
 h:∃m,n=m∧k m
structure qN(P:Program)(Γ:Nat→Option (List F))(f:Nat)(l:List F)(k:F×Bool→Prop):Prop where
 h:∃x:F×Bool,Pure P Γ f l x.1 x.2∧k x
structure dg(P:Program)(Γ:Nat→Option (List F))(t:Nat)(η:Env)(f:Nat)(l:List D)(k:Kr Prop):Prop where
 h:∃d rd e,cT P Γ η f l d rd e∧k d rd e
structure u6(P:Program)(Γ:Nat→Option (List F))(t:Nat)(η:Env)(b v:Nat)(l:List D)(k:Kr Prop):Prop where
 h:∃d rd e,xO P Γ η b v l d rd e∧k d rd e
structure aq(x r:F×Bool):Prop where
 h:x.1=r.1∧(r.2=true→x.2=true)
def alQ:Al Prop where
 bot:=False
 ak:=eR
 ni:=nN
 bm xs i k:=x5 xs[i]? k
 cF:=Ns
 iS:=FM
theorem K8:uR alQ (fun p=>p) where
 bot h:=h
 ak {c k} h:=by cases c with
  |true=>exact⟨rfl,h⟩
  |false=>exact h.elim
 ni {c a b} h:=by cases c with
  |true=>exact⟨fun _=>h,fun e=>(by cases e)⟩
  |false=>exact⟨fun e=>(by cases e),fun _=>h⟩
 bm {α xs i k} h:=by
  revert h
  show x5 xs[i]? k→_
  cases xs[i]? with
  |some x=>exact fun h=>⟨x,rfl,h⟩
  |none=>exact fun h=>h.elim
 cF {n k} h:=by
  cases n with
  |ofNat i=>exact⟨i,rfl,h⟩
  |negSucc i=>exact h.elim
 iS h:=let⟨⟨m,e,h⟩⟩:=h;e▸h
section
variable {R:Type}
def bN(n:Nat)(k:Nat→R):R:=match n with
 |0=>k 0
 |1=>k 1
 |n+2=>k (n+2)
def xZ{α:Type}:List α→(List α→R)→R
 |[],k=>k []
 |a::l,k=>xZ l fun l=>k (a::l)
mutual
def D.fo:D→(D→R)→R
 |.fr x,k=>k (.fr x)
 |.ag cs,k=>D.fos cs fun cs=>k (.ag cs)
 |.tp cs,k=>D.fos cs fun cs=>k (.tp cs)
 |.cl f cs,k=>D.fos cs fun cs=>k (.cl f cs)
 |.ptr b v o,k=>bN b fun b=>bN v fun v=>k (.ptr b v o)
 |.rp b v sz i o,k=>bN b fun b=>bN v fun v=>bN o fun o=>k (.rp b v sz i o)
 |.own b v,k=>bN b fun b=>bN v fun v=>k (.own b v)
 |.mv b v,k=>bN b fun b=>bN v fun v=>k (.mv b v)
 |.yl b v,k=>bN b fun b=>bN v fun v=>k (.yl b v)
 |.sub b v sz lo hi ex,k=>bN b fun b=>bN v fun v=>k (.sub b v sz lo hi ex)
 |.fx rows,k=>k (.fx rows)
 |.mcl f fs cs,k=>D.fos fs fun fs=>D.fos cs fun cs=>k (.mcl f fs cs)
def D.fos:List D→(List D→R)→R
 |[],k=>k []
 |x::l,k=>D.fo x fun x=>D.fos l fun l=>k (x::l)
end
def oX:List (Nat×D)→(List (Nat×D)→R)→R
 |[],k=>k []
 |(t,d)::l,k=>D.fo d fun d=>oX l fun l=>k ((t,d)::l)
def cdF(c:Code)(k:Code→R):R:=match c with
 |.seq a b=>k (.seq a b)
 |.region i o d=>k (.region i o d)
 |.block i b=>k (.block i b)
 |c=>k c
theorem K4(c:Code)(k:Code→R):cdF c k=k c:=by cases c<;>rfl
def B.fo(x:B)(k:B→R):R:=match x with
 |.va v t cs=>bN v fun v=>D.fos cs fun cs=>k (.va v t cs)
 |.ro v e sz rows=>bN v fun v=>k (.ro v e sz rows)
 |.gone v=>bN v fun v=>k (.gone v)
 |.mp v rows=>bN v fun v=>k (.mp v rows)
 |.lp v ⟨st,gF,f,N,s,ps,asg,body,db,dv⟩=>bN v fun v=>bN st fun st=>bN f fun f=>bN N fun N=>xZ ps fun ps=>cdF asg fun asg=>cdF body fun body=>(match gF with
  |some c=>oX s fun s=>bN db fun db=>bN dv fun dv=>k (.lp v ⟨st,some c,f,N,s,ps,asg,body,db,dv⟩)
  |none=>oX s fun s=>bN db fun db=>bN dv fun dv=>k (.lp v ⟨st,none,f,N,s,ps,asg,body,db,dv⟩))
 |.df v=>bN v fun v=>k (.df v)
 |.gh v vs ds=>bN v fun v=>D.fos ds fun ds=>k (.gh v vs ds)
 |.ab v a=>bN v fun v=>k (.ab v a)
def mH:List (Nat×B)→(List (Nat×B)→R)→R
 |[],k=>k []
 |(b,x)::l,k=>bN b fun b=>B.fo x fun x=>mH l fun l=>k ((b,x)::l)
def oG:List (Nat×B)→List (Nat×B)→(List (Nat×B)→R)→R
 |[],h,k=>k h
 |(b,x)::l,h,k=>bN b fun b=>B.fo x fun x=>oG l h fun l=>k ((b,x)::l)
mutual
def F.fo:F→(F→R)→R
 |.ag cs,k=>F.fos cs fun cs=>k (.ag cs)
 |.tp cs,k=>F.fos cs fun cs=>k (.tp cs)
 |.cl f cs,k=>F.fos cs fun cs=>k (.cl f cs)
 |.vl x,k=>k (.vl x)
 |.sl x,k=>k (.sl x)
 |.pt sz rows i o,k=>k (.pt sz rows i o)
 |.mp x,k=>k (.mp x)
def F.fos:List F→(List F→R)→R
 |[],k=>k []
 |x::l,k=>F.fo x fun x=>F.fos l fun l=>k (x::l)
end
def CW(p:Option (Nat×Nat))(k:Option (Nat×Nat)→R):R:=match p with
 |none=>k none
 |some (a,b)=>bN a fun a=>bN b fun b=>k (some (a,b))
def iM:List (Nat×Nat)→(List (Nat×Nat)→R)→R
 |[],k=>k []
 |(a,b)::l,k=>bN a fun a=>bN b fun b=>iM l fun l=>k ((a,b)::l)
def kiF:List KI→(List KI→R)→R
 |[],k=>k []
 |x::l,k=>(match x with
  |.code c=>kiF l fun l=>k (.code c::l)
  |.blk i=>kiF l fun l=>k (.blk i::l)
  |.loop c=>kiF l fun l=>k (.loop c::l)
  |.scope c=>kiF l fun l=>k (.scope c::l)
  |.reg o p=>kiF l fun l=>k (.reg o p::l)
  |.rf b v=>bN b fun b=>bN v fun v=>kiF l fun l=>k (.rf b v::l)
  |.erf b v=>bN b fun b=>bN v fun v=>kiF l fun l=>k (.erf b v::l)
  |.br=>kiF l fun l=>k (.br::l))
def fmF(f:Fm)(k:Fm→R):R:=match f with
 |⟨f,N,s,ki,ds,ro⟩=>bN f fun f=>bN N fun N=>oX s fun s=>kiF ki fun ki=>iM ds fun ds=>CW ro fun ro=>k ⟨f,N,s,ki,ds,ro⟩
def IQ:List Fm→(List Fm→R)→R
 |[],k=>k []
 |f::l,k=>fmF f fun f=>IQ l fun l=>k (f::l)
theorem bg(n:Nat)(k:Nat→R):bN n k=k n:=by
 match n with
 |0=>rfl
 |1=>rfl
 |n+2=>rfl
theorem sZ{α:Type}:∀(l:List α) (k:List α→R),xZ l k=k l
 |[],_=>rfl
 |a::l,k=>by unfold xZ;exact sZ l _
mutual
theorem D.jh:∀(d:D) (k:D→R),D.fo d k=k d
 |.fr x,k=>by simp only[D.fo]
 |.ag cs,k=>by unfold D.fo;exact D.ct cs _
 |.tp cs,k=>by unfold D.fo;exact D.ct cs _
 |.cl f cs,k=>by unfold D.fo;exact D.ct cs _
 |.ptr b v o,k=>by simp only[D.fo,bg]
 |.rp b v sz i o,k=>by simp only[D.fo,bg]
 |.own b v,k=>by simp only[D.fo,bg]
 |.mv b v,k=>by simp only[D.fo,bg]
 |.yl b v,k=>by simp only[D.fo,bg]
 |.sub b v sz lo hi ex,k=>by simp only[D.fo,bg]
 |.fx rows,k=>by simp only[D.fo]
 |.mcl f fs cs,k=>by unfold D.fo;rw[D.ct fs];exact D.ct cs _
theorem D.ct:∀(l:List D) (k:List D→R),D.fos l k=k l
 |[],k=>by simp only[D.fos]
 |x::l,k=>by unfold D.fos;rw[D.jh x];exact D.ct l _
end
theorem ji:∀(l:List (Nat×D)) (k:List (Nat×D)→R),oX l k=k l
 |[],k=>rfl
 |(t,d)::l,k=>by unfold oX;rw[D.jh];exact ji l _
theorem B.jh(x:B)(k:B→R):B.fo x k=k x:=by
 cases x with
 |va v t cs=>simp only[B.fo,bg,D.ct]
 |ro v e sz rows=>simp only[B.fo,bg]
 |gone v=>simp only[B.fo,bg]
 |mp v rows=>simp only[B.fo,bg]
 |lp v l=>obtain⟨st,gF,f,N,s,ps,asg,body,db,dv⟩:=l;cases gF<;>simp only[B.fo,bg,ji,sZ,K4]
 |df v=>simp only[B.fo,bg]
 |gh v vs ds=>simp only[B.fo,bg,D.ct]
 |ab v a=>simp only[B.fo,bg]
theorem iv:∀(l:List (Nat×B)) (k:List (Nat×B)→R),mH l k=k l
 |[],k=>rfl
 |(b,x)::l,k=>by unfold mH;rw[bg,B.jh];exact iv l _
theorem mf:∀(e h:List (Nat×B)) (k:List (Nat×B)→R),oG e h k=k (e++h)
 |[],h,k=>rfl
 |(b,x)::l,h,k=>by unfold oG;rw[bg,B.jh];exact mf l h _
mutual
theorem F.jh:∀(x:F) (k:F→R),F.fo x k=k x
 |.ag cs,k=>by unfold F.fo;exact F.ct cs _
 |.tp cs,k=>by unfold F.fo;exact F.ct cs _
 |.cl f cs,k=>by unfold F.fo;exact F.ct cs _
 |.vl x,k=>by simp only[F.fo]
 |.sl x,k=>by simp only[F.fo]
 |.pt sz rows i o,k=>by simp only[F.fo]
 |.mp x,k=>by simp only[F.fo]
theorem F.ct:∀(l:List F) (k:List F→R),F.fos l k=k l
 |[],k=>by simp only[F.fos]
 |x::l,k=>by unfold F.fos;rw[F.jh x];exact F.ct l _
end
theorem yi(p:Option (Nat×Nat))(k:Option (Nat×Nat)→R):CW p k=k p:=by
 rcases p with _|⟨a,b⟩
 ·rfl
 ·simp only[CW,bg]
theorem fD:∀(l:List (Nat×Nat)) (k:List (Nat×Nat)→R),iM l k=k l
 |[],k=>rfl
 |(a,b)::l,k=>by unfold iM;rw[bg,bg];exact fD l _
theorem tU:∀(l:List KI) (k:List KI→R),kiF l k=k l
 |[],k=>rfl
 |x::l,k=>by cases x<;>simp only[kiF,bg]<;>exact tU l _
theorem K0(f:Fm)(k:Fm→R):fmF f k=k f:=by
 obtain⟨f,N,s,ki,ds,ro⟩:=f;simp only[fmF,bg,ji,tU,fD,yi]
theorem Dc:∀(l:List Fm) (k:List Fm→R),IQ l k=k l
 |[],k=>rfl
 |f::l,k=>by unfold IQ;rw[K0];exact Dc l _
end
abbrev Kc(R:Type):=Nat→Nat→List (Nat×D)→List KI→List (Nat×Nat)→Option (Nat×Nat)→List Fm→List (Nat×B)→Nat→R
def Kc.un{R:Type}(K:Kc R)(c:Cfg):R:=K c.top.f c.top.N c.top.s c.top.k c.top.ds c.top.ro c.cs c.h c.nx
section
variable {R:Type} (al:Al R) (X:Tx) (O:Orc R) (fin:D→List (Nat×B)→R) (K:Kc R)
def oh(s:List (Nat×D))(dst:Option Nat)(d:D)(k:List (Nat×D)→R):R:=match dst with
 |some t=>D.fo d fun d=>k ((t,d)::s)
 |none=>k s
def o6(c:Fm)(d:D)(cs:List Fm)(h:List (Nat×B))(nx:Nat):R:=match c with
 |⟨f,N,s,ki,ds,ro⟩=>match ki with
  |.reg ops (o::l)::k=>al.ak (dOk N o.dst) (oh s o.dst d fun s=>mH h fun h=>K f N s (.reg ops l::k) ds ro cs h nx)
  |.rf b v::k=>mH h fun h=>K f N s (.erf b v::k) ds ro cs h nx
  |_=>al.bot
def I6(f:Nat)(s:List (Nat×D))(ds:List (Nat×Nat))(cs:List Fm)(h:List (Nat×B))(nx:Nat):R:=match X.fi f with
 |some fi=>(match td ds h with
  |some h=>(match jb (fi.rs.map (DN X.E ⟨s,h⟩))with
   |some rs=>(match cs with
    |[]=>al.ak (okR (oK rs)) (fin (oK rs) h)
    |c1::cs=>o6 al K c1 (oK rs) cs h nx)
   |none=>al.bot)
  |none=>al.bot)
 |none=>al.bot
def qa(f:Nat)(s:List (Nat×D))(ds:List (Nat×Nat))(ro:Option (Nat×Nat))(cs:List Fm)(h:List (Nat×B))(nx:Nat)(j:Option Code):R:=match ro with
 |none=>(match j with
  |none=>I6 al X fin K f s ds cs h nx
  |some .ret=>I6 al X fin K f s ds cs h nx
  |_=>al.bot)
 |some (b,v)=>(match lk h b,cs,ds with
  |some (.lp v' L),c1::cs,[]=>al.ak (Nat.beq v v') (o6 al K c1 (Bo j.isNone) cs ((b,.lp v { L with st:=bif j.isNone then 0 else 2,gF:=j })::h) nx)
  |some (.lp v' L),[],[]=>al.ak (Nat.beq v v') (fin (.mcl 0 [] [Bo j.isNone]) ((b,.lp v { L with st:=bif j.isNone then 0 else 2,gF:=j })::h))
  |_,_,_=>al.bot)
def nA(f:Nat)(l:List D)(cs:List Fm)(h:List (Nat×B))(nx:Nat):R:=bif X.hp f then(match cs with
 |c1::cs=>D.fos l fun l=>O.he nx (lk h) f l fun d _ e=>oG e h fun h=>bN (nx+1) fun nx=>o6 al K c1 d cs h nx
 |[]=>al.bot)else match X.fi f with
 |some fi=>al.ak (Nat.ble l.length fi.N) (D.fos l fun l=>oX (j9 0 l) fun s=>K f fi.N s [.code fi.body] [] none cs h nx)
 |none=>al.bot
def xX(dr:Bool):CR R:=fun t η f l k=>match X.hp f with
 |true=>D.fos l fun l=>O.he t η f l k
 |false=>match X.bd f with
 |kind+1=>(match bdX X.E (X.bt f) X.u8 (kind+1) t η l with
 |some (d,rd,e)=>k d rd e
 |none=>al.bot)
 |0=>match cB (D.toF η 6) l with
 |some (fl,is)=>F.fos fl fun fl=>O.pu f fl fun r=>match r with
  |(x,fr)=>F.fo x fun x=>bif x.flat||fr then k x.toD is []else bif dr && !is.isEmpty then al.bot else k x.toD is (aU η is)
 |none=>al.bot
def CB(f:Nat)(a:List D)(yes:Bool)(c:Fm)(cs:List Fm)(h:List (Nat×B))(nx:Nat)(put:Kr R):R:=bif yes then xX al X O false nx (lk h) f a put else nA al X O K f a (c::cs) h nx
def Ct(f N:Nat)(s:List (Nat×D))(ds:List (Nat×Nat))(ro:Option (Nat×Nat))(cs:List Fm)(h:List (Nat×B))(nx:Nat)(o:Oper)(ops:Array Oper)(l:List Oper)(k:List KI):R:=
 al.ak (dOk N o.dst) (match o.op with
  |.call ⟨.value x,args,tys⟩=>(match evD X.Γ s x,jb (args.toList.map (evD X.Γ s))with
   |some (.cl g cp),some a=>CB al X O K g (a++cp) (X.hp g||Nat.blt 0 (X.bd g)||(X.pu g && !hH (a++cp))) ⟨f,N,s,.reg ops (o::l)::k,ds,ro⟩ cs h nx fun d _ e=>oh s o.dst d fun s=>oG e h fun h=>bN (nx+1) fun nx=>K f N s (.reg ops l::k) ds ro cs h nx
   |some (.fr (.cl g cp)),some a=>CB al X O K g (a++cp.map F.toD) (X.hp g||Nat.blt 0 (X.bd g)||(X.pu g && !hH a)) ⟨f,N,s,.reg ops (o::l)::k,ds,ro⟩ cs h nx fun d _ e=>oh s o.dst d fun s=>oG e h fun h=>bN (nx+1) fun nx=>K f N s (.reg ops l::k) ds ro cs h nx
   |some (.mcl g fs cp),some a=>CB al X O K g (fs++a++cp) (X.hp g||Nat.blt 0 (X.bd g)||(X.pu g && !hH (fs++a++cp))) ⟨f,N,s,.reg ops (o::l)::k,ds,ro⟩ cs h nx fun d _ e=>oh s o.dst d fun s=>oG e h fun h=>bN (nx+1) fun nx=>K f N s (.reg ops l::k) ds ro cs h nx
   |some (.yl b v),some a=>(match lk h b with
    |some (.lp v' L)=>al.ak (Nat.beq v v'&&Nat.beq a.length L.ps.length&&L.ps.all fun p=>Nat.blt p L.N)
      (oX (xV L.ps a L.s) fun s'=>K L.f L.N s' [.code L.asg,.br,.code L.body] [] (some (b,v)) (⟨f,N,s,.reg ops (o::l)::k,ds,ro⟩::cs) h nx)
    |some (.ab v' _)=>al.ak (Nat.beq v v') (D.fos a fun a=>O.ye nx (lk h) b v a fun d _ e=>oh s o.dst d fun s=>oG e h fun h=>bN (nx+1) fun nx=>K f N s (.reg ops l::k) ds ro cs h nx)
    |_=>al.bot)
   |_,_=>al.bot)
  |op=>opG al X.E (lk h) nx X.Q (fun _ _ _ _ _=>al.bot) (evD X.Γ s) op fun d _ e=>oh s o.dst d fun s=>oG e h fun h=>bN (nx+1) fun nx=>K f N s (.reg ops l::k) ds ro cs h nx)
noncomputable def okE(ops:Array Oper)(acs:List Ac):Bool:=Classical.choose (p:=fun b=>b=okD ops acs) ⟨_,rfl⟩
theorem Gx(ops:Array Oper)(acs:List Ac):okE ops acs=okD ops acs:=Classical.choose_spec (p:=fun b=>b=okD ops acs) ⟨_,rfl⟩
noncomputable def yX(N:Nat)(b0:Nat)(ops:Array Oper)(K:List (Nat×D)→List (Nat×B)→R):List Ac→List Oper→List (Nat×D)→List (Nat×B)→R
 |acc,[],s,h=>al.ak (okE ops acc.reverse) (K s h)
 |acc,o::l,s,h=>al.ak (dOk N o.dst) (match o.guard with
  |none=>opG al X.E (lk h) (b0+o.dst.getD 0) X.Q (xX al X O true) (evD X.Γ s) o.op fun d rd e=>oh s o.dst d fun s=>oG e h fun h=>yX N b0 ops K (.ex d rd e::acc) l s h
  |some (j,want)=>match gd ops j with
   |some dj=>al.ak (Nat.blt dj N) (match lk s dj with
    |some (.fr (.vl (.bool b)))=>al.ni (qt b want)
     (opG al X.E (lk h) (b0+o.dst.getD 0) X.Q (xX al X O true) (evD X.Γ ((dj,.fr (.vl (.bool want)))::s)) o.op fun d rd e=>oh ((dj,.fr (.vl (.bool want)))::s) o.dst d fun s=>oG e h fun h=>yX N b0 ops K (.ex d rd e::acc) l s h)
     (oh ((dj,.fr (.vl (.bool (!want))))::s) o.dst Un fun s=>yX N b0 ops K (.sk::acc) l s h)
    |some (.fr (.vl (.tuple _)))=>oh s o.dst Un fun s=>yX N b0 ops K (.sk::acc) l s h
    |_=>al.bot)
   |none=>al.bot)
def Bk(f N:Nat)(s:List (Nat×D))(k:List KI)(ds:List (Nat×Nat))(ro:Option (Nat×Nat))(cs:List Fm)(h:List (Nat×B))(nx:Nat)(x:Operand)(ps:Array Nat)(a b:Code):R:=match evD X.Γ s x with
 |some d=>(match ro with
  |none=>bN (nv (lk h) nx) fun v0=>bN (nx+1) fun nx1=>bN (nx+2) fun nx2=>bN (nv (up (lk h) nx (.df v0)) nx1) fun v=>
   (match d with
   |.cl g cp=>nA al X O K g (.yl nx1 v::cp) (⟨f,N,s,.rf nx1 v::k,(nx,v0)::ds,none⟩::cs) ((nx1,.lp v ⟨0,none,f,N,s,ps.toList,a,b,nx,v0⟩)::(nx,.df v0)::h) nx2
   |.fr (.cl g cp)=>nA al X O K g (.yl nx1 v::cp.map F.toD) (⟨f,N,s,.rf nx1 v::k,(nx,v0)::ds,none⟩::cs) ((nx1,.lp v ⟨0,none,f,N,s,ps.toList,a,b,nx,v0⟩)::(nx,.df v0)::h) nx2
   |_=>al.bot)
  |some (b0,u0)=>(match lk h b0 with
   |some (.lp v' L)=>al.ak (Nat.beq u0 v') (bN (nv (lk h) nx) fun v=>bN (nx+1) fun nx1=>
    match d with
    |.cl g cp=>nA al X O K g (.yl nx v::cp) (⟨f,N,s,.rf nx v::k,ds,some (b0,u0)⟩::cs) ((nx,.lp v ⟨0,none,f,N,s,ps.toList,a,b,L.db,L.dv⟩)::h) nx1
    |.fr (.cl g cp)=>nA al X O K g (.yl nx v::cp.map F.toD) (⟨f,N,s,.rf nx v::k,ds,some (b0,u0)⟩::cs) ((nx,.lp v ⟨0,none,f,N,s,ps.toList,a,b,L.db,L.dv⟩)::h) nx1
    |_=>al.bot)
   |_=>al.bot))
 |none=>al.bot
noncomputable def codeF(f N:Nat)(s:List (Nat×D))(k:List KI)(ds:List (Nat×Nat))(ro:Option (Nat×Nat))(cs:List Fm)(h:List (Nat×B))(nx:Nat)(cd:Code):R:=match cd with
 |.skip=>K f N s k ds ro cs h nx
 |.label _=>K f N s k ds ro cs h nx
 |.seq a b=>K f N s (.code a :: .code b::k) ds ro cs h nx
 |.cond x a b=>GO al ((evD X.Γ s x).getD Un) fun q=>al.ni q (K f N s (.code a::k) ds ro cs h nx) (K f N s (.code b::k) ds ro cs h nx)
 |.block id b=>K f N s (.code b :: .blk id::k) ds ro cs h nx
 |.loop b=>K f N s (.loop b::k) ds ro cs h nx
 |.scope b=>K f N s (.code b :: .scope b::k) ds ro cs h nx
 |.exit id=>(match dH id k with
  |some k'=>kiF k' fun k'=>K f N s k' ds ro cs h nx
  |none=>qa al X fin K f s ds ro cs h nx (some (.exit id)))
 |.goto l=>(match dF l k with
  |some k'=>kiF k' fun k'=>K f N s k' ds ro cs h nx
  |none=>qa al X fin K f s ds ro cs h nx (some (.goto l)))
 |.ret=>qa al X fin K f s ds ro cs h nx (some .ret)
 |.region id ops false=>xZ ops.toList fun l=>K f N s (.reg ops l::k) ds ro cs h nx
 |.region id ops true=>al.ak (o5 ops) <| yX al X O N nx ops (fun s h=>bN (nx+N) fun nx=>K f N s k ds ro cs h nx) [] ops.toList s h
 |.rangeFunc x ps a b=>Bk al X O K f N s k ds ro cs h nx x ps a b
 |.refuse _=>al.bot
noncomputable def z6(f N:Nat)(s:List (Nat×D))(k:List KI)(ds:List (Nat×Nat))(ro:Option (Nat×Nat))(cs:List Fm)(h:List (Nat×B))(nx:Nat):R:=match k with
 |[]=>qa al X fin K f s ds ro cs h nx none
 |.code cd::k=>codeF al X O fin K f N s k ds ro cs h nx cd
 |.blk _::k=>K f N s k ds ro cs h nx
 |.scope _::k=>K f N s k ds ro cs h nx
 |.loop b::k=>K f N s (.code b :: .loop b::k) ds ro cs h nx
 |.reg ops []::k=>K f N s k ds ro cs h nx
 |.reg ops (o::l)::k=>(match o.guard with
  |none=>Ct al X O K f N s ds ro cs h nx o ops l k
  |some (j,want)=>match gd ops j with
   |some dj=>al.ak (Nat.blt dj N) (match lk s dj with
    |some (.fr (.vl (.bool b)))=>al.ni (qt b want)
     (Ct al X O K f N ((dj,.fr (.vl (.bool want)))::s) ds ro cs h nx o ops l k)
     (al.ak (dOk N o.dst) (oh ((dj,.fr (.vl (.bool (!want))))::s) o.dst Un fun s=>K f N s (.reg ops l::k) ds ro cs h nx))
    |some (.fr (.vl (.tuple _)))=>al.ak (dOk N o.dst) (oh s o.dst Un fun s=>K f N s (.reg ops l::k) ds ro cs h nx)
    |_=>al.bot)
   |none=>al.bot)
 |.rf _ _::_=>al.bot
 |.erf b v::k=>(match lk h b with
  |some (.lp v' L)=>al.ak (Nat.beq v v' && !Nat.beq L.st 1) (match L.gF with
   |some j=>oG [(b,.lp v { L with st:=3 })] h fun h=>K f N s (.code j::k) ds ro cs h nx
   |none=>oG [(b,.lp v { L with st:=3 })] h fun h=>K f N s k ds ro cs h nx)
  |_=>al.bot)
 |.br::k=>(match ro with
  |some (b,v)=>(match lk h b with
   |some (.lp v' L)=>al.ak (Nat.beq v v'&&Nat.beq L.st 0) (oG [(b,.lp v { L with st:=1 })] h fun h=>K f N s k ds ro cs h nx)
   |_=>al.bot)
  |none=>al.bot)
end
section
variable {R:Type}{al:Al R}{X:Tx}{O:Orc R}{fin:D→List (Nat×B)→R}{K:Kc R}
theorem sn(s:List (Nat×D))(dst:Option Nat)(d:D)(k:List (Nat×D)→R):oh s dst d k=k (mD s dst d):=by
 cases dst<;>simp only[oh,mD,D.jh]
theorem yT(dr:Bool):xX al X O dr=j7 al X O dr:=by
 funext t η f l k
 simp only[xX,j7,F.ct,F.jh,D.ct];rfl
theorem nO(c:Fm)(d:D)(cs:List Fm)(h:List (Nat×B))(nx:Nat):o6 al K c d cs h nx=jG al K.un c d cs h nx:=by
 obtain⟨f,N,s,ki,ds,ro⟩:=c;simp only[o6,jG,sn,iv];rfl
theorem Jl(f N:Nat)(s:List (Nat×D))(k:List KI)(ds:List (Nat×Nat))(ro:Option (Nat×Nat))(cs:List Fm)(h:List (Nat×B))(nx:Nat):I6 al X fin K f s ds cs h nx=ED al X fin K.un ⟨⟨f,N,s,k,ds,ro⟩,cs,h,nx⟩:=by
 simp only[I6,ED,nO]
 cases h1:X.fi f<;>cases h2:td ds h<;>rfl
theorem lW(f N:Nat)(s:List (Nat×D))(k:List KI)(ds:List (Nat×Nat))(ro:Option (Nat×Nat))(cs:List Fm)(h:List (Nat×B))(nx:Nat)(j:Option Code):qa al X fin K f s ds ro cs h nx j=kx al X fin K.un ⟨⟨f,N,s,k,ds,ro⟩,cs,h,nx⟩ j:=by
 simp only[qa,kx,Jl f N s k ds ro cs h nx,nO];rfl
theorem vI(f:Nat)(l:List D)(cs:List Fm)(h:List (Nat×B))(nx:Nat):nA al X O K f l cs h nx=eP al X O K.un f l cs h nx:=by
 cases cs<;>simp only[nA,eP,D.ct,ji,mf,bg,nO]<;>rfl
theorem Ii(f N:Nat)(s:List (Nat×D))(k0:List KI)(ds:List (Nat×Nat))(ro:Option (Nat×Nat))(cs:List Fm)(h:List (Nat×B))(nx:Nat)(o:Oper)(ops:Array Oper)(l:List Oper)(k:List KI) :
  Ct al X O K f N s ds ro cs h nx o ops l k=vO al X O K.un ⟨⟨f,N,s,k0,ds,ro⟩,cs,h,nx⟩ o ops l k:=by
 simp only[Ct,vO,CB,vI,yT,sn,mf,bg,ji,D.ct];rfl
theorem Dk(N b0:Nat)(ops:Array Oper)(K:List (Nat×D)→List (Nat×B)→R):∀(l:List Oper) (acc:List Ac) (s:List (Nat×D)) (h:List (Nat×B)),yX al X O N b0 ops K acc l s h=ou al X O N b0 ops K acc l s h
 |[],acc,s,h=>by simp only[yX,ou,Gx]
 |o::l,acc,s,h=>by
  simp only[yX,ou,sn,mf,yT,Dk N b0 ops K l];rfl
theorem Ea(f N:Nat)(s:List (Nat×D))(k:List KI)(ds:List (Nat×Nat))(ro:Option (Nat×Nat))(cs:List Fm)(h:List (Nat×B))(nx:Nat)(x:Operand)(ps:Array Nat)(a b:Code) :
  Bk al X O K f N s k ds ro cs h nx x ps a b=stepG al X O fin K.un ⟨⟨f,N,s,.code (.rangeFunc x ps a b)::k,ds,ro⟩,cs,h,nx⟩:=by
 simp only[Bk,stepG,bg,vI]
 cases ro<;>rfl
theorem Gt(f N:Nat)(s:List (Nat×D))(k:List KI)(ds:List (Nat×Nat))(ro:Option (Nat×Nat))(cs:List Fm)(h:List (Nat×B))(nx:Nat) :
  z6 al X O fin K f N s k ds ro cs h nx=stepG al X O fin K.un ⟨⟨f,N,s,k,ds,ro⟩,cs,h,nx⟩:=by
 match k with
 |[]=>exact lW f N s [] ds ro cs h nx none
 |.code cd::k=>
  show codeF al X O fin K f N s k ds ro cs h nx cd=_
  cases cd with
  |exit id=>simp only[codeF,stepG,tU,lW f N s (.code (.exit id)::k) ds ro cs h nx];rfl
  |goto l=>simp only[codeF,stepG,tU,lW f N s (.code (.goto l)::k) ds ro cs h nx];rfl
  |ret=>exact lW f N s (.code .ret::k) ds ro cs h nx (some .ret)
  |region id ops b=>cases b<;>simp only[codeF,stepG,sZ,Dk,bg]<;>rfl
  |rangeFunc x ps a b=>exact Ea ..
  |_=>rfl
 |.blk _::k=>rfl
 |.scope _::k=>rfl
 |.loop b::k=>rfl
 |.reg ops []::k=>rfl
 |.reg ops (o::l)::k=>
  simp only[z6,stepG,sn,Ii f N _ (.reg ops (o::l)::k) ds ro cs h nx];rfl
 |.rf _ _::_=>rfl
 |.erf b v::k=>
  simp only[z6,stepG,mf]
  cases lk h b with
  |none=>rfl
  |some x=>cases x with
   |lp v' L=>obtain⟨st,gF,lf,lN,ls,ps,asg,body,db,dv⟩:=L;cases gF<;>rfl
   |_=>rfl
 |.br::k=>
  simp only[z6,stepG,mf]
  cases ro<;>rfl
end
end Go.Km
end
section
namespace Go.Km
open Go Go.RowKit Go.Vc
open Go.Sl hiding lk
structure Stp(p:Prop):Prop where
 h:p
structure Lp(p:Prop):Prop where
 h:p
structure Nd(p:Prop):Prop where
 h:p
structure SdA(p q:Prop):Prop where
 h:p
 k:q
structure BrA(c d p q:Prop):Prop where
 h1:c→p
 h2:d→q
structure Br(c p:Prop):Prop where
 h:c→p
structure OkA(ops:Array Oper)(acs:List Ac)(k:Prop):Prop where
 h:okE ops acs=true
 k:k
structure OrA(p a b:Prop):Prop where
 h:(p∧a)∨b
structure ExS(p:Prop)(k:p→Prop):Prop where
 h:p
 k:k h
structure ExK{α:Type}(o:Option α)(k:α→Prop):Prop where
 h:∃y,o=some y∧k y
def zN:Code→Bool
 |.skip=>true
 |.seq a _=>zN a
 |_=>false
def EJ:List KI→Bool
 |.scope _::_=>true
 |_=>false
def M9:List KI→Bool
 |.loop _::_=>true
 |.code c::k=>(match c with
  |.seq a _=>zN a&&EJ k
  |_=>false)
 |_=>false
class mN (ρ:Type) extends ix ρ where
 fin:ρ→D→List (Nat×B)→Prop
 ok:∀r d h,fin r d h→ix.post r d h
instance:mN (F×Bool) where
 fin r d h:=match D.toF (lk h) 6 d with
  |some (x,_)=>F.fo x fun x=>aq (x,cN (lk h) d) r
  |none=>False
 ok r d h hf:=by
  split at hf
  ·rename_i x is hx;rw[F.jh]at hf;exact⟨x,is,hx,hf.h⟩
  ·exact hf.elim
section
variable {ρ:Type} [mN ρ]
def g0(P:Program)(X:Tx)(f0:Nat)(r:ρ):Kc Prop:=fun f N s k ds ro cs h nx=>Sn P X f0 r ⟨⟨f,N,s,k,ds,ro⟩,cs,h,nx⟩
def goS(P:Program)(X:Tx)(f0:Nat)(r:ρ)(K:Kc Prop):Kc Prop:=z6 alQ X ⟨qN P X.Γ,dg P X.Γ,u6 P X.Γ⟩ (mN.fin r) fun f N s k ds ro cs h nx=>match M9 k with
  |true=>Stp (Sn P X f0 r ⟨⟨f,N,s,k,ds,ro⟩,cs,h,nx⟩)
  |false=>K f N s k ds ro cs h nx
def g1(P:Program)(X:Tx)(f0:Nat)(r:ρ):Kc Prop:=goS P X f0 r (g0 P X f0 r)
def g2(P:Program)(X:Tx)(f0:Nat)(r:ρ):Kc Prop:=goS P X f0 r (g1 P X f0 r)
def g3(P:Program)(X:Tx)(f0:Nat)(r:ρ):Kc Prop:=goS P X f0 r (g2 P X f0 r)
def g4(P:Program)(X:Tx)(f0:Nat)(r:ρ):Kc Prop:=goS P X f0 r (g3 P X f0 r)
def g5(P:Program)(X:Tx)(f0:Nat)(r:ρ):Kc Prop:=goS P X f0 r (g4 P X f0 r)
def g6(P:Program)(X:Tx)(f0:Nat)(r:ρ):Kc Prop:=goS P X f0 r (g5 P X f0 r)
def g7(P:Program)(X:Tx)(f0:Nat)(r:ρ):Kc Prop:=goS P X f0 r (g6 P X f0 r)
def g8(P:Program)(X:Tx)(f0:Nat)(r:ρ):Kc Prop:=goS P X f0 r (g7 P X f0 r)
def g9(P:Program)(X:Tx)(f0:Nat)(r:ρ):Kc Prop:=goS P X f0 r (g8 P X f0 r)
def g10(P:Program)(X:Tx)(f0:Nat)(r:ρ):Kc Prop:=goS P X f0 r (g9 P X f0 r)
def g11(P:Program)(X:Tx)(f0:Nat)(r:ρ):Kc Prop:=goS P X f0 r (g10 P X f0 r)
def g12(P:Program)(X:Tx)(f0:Nat)(r:ρ):Kc Prop:=goS P X f0 r (g11 P X f0 r)
def g13(P:Program)(X:Tx)(f0:Nat)(r:ρ):Kc Prop:=goS P X f0 r (g12 P X f0 r)
def g14(P:Program)(X:Tx)(f0:Nat)(r:ρ):Kc Prop:=goS P X f0 r (g13 P X f0 r)
def g15(P:Program)(X:Tx)(f0:Nat)(r:ρ):Kc Prop:=goS P X f0 r (g14 P X f0 r)
def g16(P:Program)(X:Tx)(f0:Nat)(r:ρ):Kc Prop:=goS P X f0 r (g15 P X f0 r)
def g17(P:Program)(X:Tx)(f0:Nat)(r:ρ):Kc Prop:=goS P X f0 r (g16 P X f0 r)
def g18(P:Program)(X:Tx)(f0:Nat)(r:ρ):Kc Prop:=goS P X f0 r (g17 P X f0 r)
def g19(P:Program)(X:Tx)(f0:Nat)(r:ρ):Kc Prop:=goS P X f0 r (g18 P X f0 r)
def g20(P:Program)(X:Tx)(f0:Nat)(r:ρ):Kc Prop:=goS P X f0 r (g19 P X f0 r)
def g21(P:Program)(X:Tx)(f0:Nat)(r:ρ):Kc Prop:=goS P X f0 r (g20 P X f0 r)
def g22(P:Program)(X:Tx)(f0:Nat)(r:ρ):Kc Prop:=goS P X f0 r (g21 P X f0 r)
def g23(P:Program)(X:Tx)(f0:Nat)(r:ρ):Kc Prop:=goS P X f0 r (g22 P X f0 r)
def g24(P:Program)(X:Tx)(f0:Nat)(r:ρ):Kc Prop:=goS P X f0 r (g23 P X f0 r)
end
def yQ(g:Cfg)(K:Kc Prop):Prop:=match g with
 |⟨⟨f,N,s,ki,ds,ro⟩,cs,h,nx⟩=>bN f fun f=>bN N fun N=>oX s fun s=>kiF ki fun ki=>iM ds fun ds=>CW ro fun ro=>IQ cs fun cs=>mH h fun h=>bN nx fun nx=>K f N s ki ds ro cs h nx
theorem CU(g:Cfg)(K:Kc Prop):yQ g K=K.un g:=by
 obtain⟨⟨f,N,s,k,ds,ro⟩,cs,h,nx⟩:=g;simp only[yQ,ji,tU,fD,yi,Dc,iv,bg];rfl
section
variable {ρ:Type} [mN ρ] {P:Program}{X:Tx} (hX:iP P X) {f0:Nat}{r:ρ}
def LS(P:Program)(X:Tx)(f0:Nat)(r:ρ)(K:Kc Prop):Prop:=∀{f N:Nat}{s:List (Nat×D)}{k:List KI}{ds:List (Nat×Nat)}{ro:Option (Nat×Nat)}{cs:List Fm}{h:List (Nat×B)}{nx:Nat},K f N s k ds ro cs h nx→Sn P X f0 r ⟨⟨f,N,s,k,ds,ro⟩,cs,h,nx⟩
include hX in
theorem ca{K:Kc Prop}(hK:LS P X f0 r K):LS P X f0 r (goS P X f0 r K):=by
 intro f N s k ds ro cs h nx hg;unfold goS at hg;rw[Gt]at hg;refine J0 (R:=Prop) (al:=alQ) (T:=fun p=>p) hX K8 (fun g' hg'=>?_) ⟨fun f l k (h:qN P X.Γ f l k)=>h.h,fun t η f l k (h:dg P X.Γ t η f l k)=>h.h,fun t η b v l k (h:u6 P X.Γ t η b v l k)=>h.h⟩ (fun d h hf=>mN.ok r d h hf) hg;obtain⟨⟨f,N,s,k,ds,ro⟩,cs,h,nx⟩:=g';simp only[Kc.un]at hg'
 split at hg'
 ·exact hg'.h
 ·exact hK hg'
include hX in
theorem Ml:LS P X f0 r (g24 P X f0 r):=(ca hX (ca hX (ca hX (ca hX (ca hX (ca hX (ca hX (ca hX (ca hX (ca hX (ca hX (ca hX (ca hX (ca hX (ca hX (ca hX (ca hX (ca hX (ca hX (ca hX (ca hX (ca hX (ca hX (ca hX (fun h=>h)))))))))))))))))))))))))
include hX in
theorem Sn.go{g:Cfg}(h:yQ g (g24 P X f0 r)):Sn P X f0 r g:=by
 rw[CU]at h;exact Ml hX h
include hX in
theorem fL{f:FuncId}{fi:Fi}{l:List F}{r:F}{b:Bool}(hf:X.fi f=some fi)(hN:Nat.ble l.length fi.N=true)(h:yQ (wT f fi (l.map F.toD)) (g24 P X f (r,b))):Pure P X.Γ f l r b:=
 IK (r:=(r,b)) hX hf hN (Sn.go hX h)
end
theorem kCt{ρ:Type}[mN ρ]{P:Program}{X:Tx}{f0:Nat}{r:ρ}(ks kc:List Nat){g:Cfg}(h:iM (reach kc g.h 10000 (roots kc ks g) []) fun m=>match cut m kc ks g with|some g'=>yQ g' fun f N s k ds ro cs h nx=>Lp (Sn P X f0 r ⟨⟨f,N,s,k,ds,ro⟩,cs,h,nx⟩)|none=>False):Stp (Sn P X f0 r g):=by
 rw[fD]at h
 split at h
 ·rename_i g' hg;rw[CU]at h;exact⟨Sn.short kc ks hg h.h⟩
 ·exact h.elim
theorem Stp.on{p:Prop}(h:p):Stp p:=⟨h⟩
def jv{α:Type}(u:List (Nat×α)):List (Nat×α)→List (Nat×α)
 |[]=>[]
 |(k,x)::l=>(k,(match lk u k with|some y=>y|none=>x))::jv u l
def JM(s:List (Nat×D))(h:List (Nat×B))(g:Cfg):Cfg:={ g with top:={ g.top with s:=jv s g.top.s },h:=jv h g.h }
abbrev InD(n:Int):D:=.fr (.vl (.int .i64 n))
abbrev BoD(b:Bool):D:=.fr (.vl (.bool b))
def NO(g:Cfg)(s:List (Nat×D))(h:List (Nat×B)):Cfg:=⟨⟨g.top.f,g.top.N,s,g.top.k,g.top.ds,g.top.ro⟩,g.cs,h,g.nx⟩
theorem Lp.ind {ρ:Type} [mN ρ] {P:Program}{X:Tx}{f0:Nat}{r:ρ}{g:Cfg}{ι:Type} (m:ι→Nat) (I:ι→Prop) (σ:ι→List (Nat×D)) (τ:ι→List (Nat×B)) (R:ι→ρ) (i0:ι) (h0:I i0) (hr:r=R i0) (hs:g.top.s=jv (σ i0) g.top.s) (hh:g.h=jv (τ i0) g.h)
  (h:let G:=g;∀i,(∀j r' s' h',m j<m i→I j→r'=R j→s'=jv (σ j) G.top.s→h'=jv (τ j) G.h→Lp (Sn P X f0 r' (NO G s' h')))→I i→Sn P X f0 (R i) (JM (σ i) (τ i) G)):Lp (Sn P X f0 r g):=by
 have key:∀n i,m i≤n→I i→Sn P X f0 (R i) (JM (σ i) (τ i) g):=by
  intro n
  induction n with
  |zero=>
   intro i hi hI;exact h i (fun j r' s' h' hj _ _ _ _=>by omega) hI
  |succ n ih=>
   intro i hi hI;exact h i (fun j r' s' h' hj hJ e1 e2 e3=>by rw[e1,e2,e3];exact⟨ih j (by omega) hJ⟩) hI
 have hg:g=JM (σ i0) (τ i0) g:=by
  unfold JM;rw[←hs,←hh]
 rw[hr,hg];exact⟨key _ i0 (Nat.le_refl _) h0⟩
class Arm(p:Prop)(q:outParam Prop):Prop where
 h:q→p
class KC(P:Program)(Γ:Nat→Option (List F))(f:Nat)(l:List F)(r:outParam F)(b:outParam Bool)(pre:outParam Prop):Prop where
 h:pre→Pure P Γ f l r b
theorem Nd.i{p:Prop}(h:p:=by first|with_reducible trivial|exact Or.inr rfl|with_reducible assumption|omega|(simp only[List.length_map,List.length_append,List.length_set,List.length_cons,List.length_nil,List.length_replicate,List.length_take,List.length_drop,jW,Int.toNat_natCast,maxLen,true_and,and_true];omega)):Nd p:=⟨h⟩
theorem OkA.i{ops:Array Oper}{acs:List Ac}{k:Prop}(h:okD ops acs=true)(hk:k):OkA ops acs k:=⟨by rw[Gx];exact h,hk⟩
theorem OrA.l{p a b:Prop}(h:Nd p)(ha:a):OrA p a b:=⟨.inl ⟨h.h,ha⟩⟩
theorem OrA.r{p a b:Prop}(hb:b):OrA p a b:=⟨.inr hb⟩
theorem SdA.m{p q:Prop}(h:Nd p)(hq:q):SdA p q:=⟨h.h,hq⟩
structure No(c:Prop):Prop where
 h:¬c
theorem nt{c:Bool}(h:c=false):¬c=true:=by rw[h];decide
theorem nf{c:Bool}(h:c=true):¬c=false:=by rw[h];decide
theorem No.i{c:Prop}(h:¬c:=by first|with_reducible assumption|(refine nt ?_;with_reducible assumption)|(refine nf ?_;with_reducible assumption)|omega|(simp only[List.length_map,List.length_append,List.length_set,List.length_cons,List.length_nil,List.length_replicate,List.length_take,List.length_drop,jW,Int.toNat_natCast];omega)):No c:=⟨h⟩
theorem Br.no{c p:Prop}(h:No c):Br c p:=⟨fun hc=>(h.h hc).elim⟩
structure Kn(p:Prop):Prop where
 h:p
theorem Kn.i{p:Prop}(h:p:=by with_reducible assumption):Kn p:=⟨h⟩
theorem ExK.m{α:Type}{o:Option α}{k:α→Prop}{y:α}(h:Kn (o=some y))(hk:k y):ExK o k:=⟨y,h.h,hk⟩
section
variable {c a b:Bool}{k A B:Prop}{m n:Nat}{x y:Int}{s t:ByteArray}
instance(priority:=low):Arm (eR c k) (SdA (c=true) k):=⟨fun⟨h,hk⟩=>by have:c=true:=h;subst this;exact hk⟩
instance{ops:Array Oper}{acs:List Ac}:Arm (eR (okE ops acs) k) (OkA ops acs k):=⟨fun⟨h,hk⟩=>by rw[h];exact hk⟩
instance:Arm (eR (a&&b) k) (eR a (eR b k)):=⟨fun h=>by cases a<;>cases b<;>exact h⟩
instance:Arm (eR (Nat.ble m n) k) (SdA (m≤n) k):=⟨fun⟨h,hk⟩=>by rw[Nat.ble_eq_true_of_le h];exact hk⟩
instance:Arm (eR (Nat.blt m n) k) (SdA (m<n) k):=⟨fun⟨h,hk⟩=>by unfold Nat.blt;rw[Nat.ble_eq_true_of_le h];exact hk⟩
instance:Arm (eR (Nat.beq m n) k) (SdA (m=n) k):=⟨fun⟨h,hk⟩=>by have:m=n:=h;subst this;rw[Nat.beq_refl];exact hk⟩
instance{p q:Nat}:Arm (eR (Nat.beq m n||Nat.beq p q) k) (SdA (m=n∨p=q) k):=⟨fun⟨h,hk⟩=>by
 rcases h with h|h
 ·have:m=n:=h;subst this;rw[Nat.beq_refl];exact hk
 ·have:p=q:=h;subst this;rw[Nat.beq_refl,Bool.or_true];exact hk⟩
instance:Arm (eR (Ke x) k) (SdA (-9223372036854775808≤x∧x≤9223372036854775807) k):=⟨fun⟨h,hk⟩=>by rw[(yK x).2 h];exact hk⟩
instance:Arm (eR (leI x y) k) (SdA (x≤y) k):=⟨fun⟨h,hk⟩=>by rw[dM,decide_eq_true (show x≤y from h)];exact hk⟩
instance(priority:=low):Arm (nN c A B) (BrA (c=true) (c=false) A B):=⟨fun⟨h1,h2⟩=>by cases c;exact h2 rfl;exact h1 rfl⟩
instance{p:Prop}[Decidable p]:Arm (nN (decide p) A B) (BrA p (¬p) A B):=⟨fun⟨h1,h2⟩=>by
 by_cases e:p
 ·rw[decide_eq_true e];exact h1 e
 ·rw[decide_eq_false e];exact h2 e⟩
instance:Arm (nN (!c) A B) (nN c B A):=⟨fun h=>by cases c<;>exact h⟩
instance:Arm (nN (qt c true) A B) (nN c A B):=⟨fun h=>by cases c<;>exact h⟩
instance:Arm (nN (qt c false) A B) (nN c B A):=⟨fun h=>by cases c<;>exact h⟩
instance:Arm (nN (ltI x y) A B) (BrA (x<y) (y≤x) A B):=⟨fun⟨h1,h2⟩=>by
 rw[nS]
 by_cases e:x<y
 ·rw[decide_eq_true e];exact h1 e
 ·rw[decide_eq_false e];exact h2 (by omega)⟩
instance:Arm (nN (leI x y) A B) (BrA (x≤y) (y<x) A B):=⟨fun⟨h1,h2⟩=>by
 rw[dM]
 by_cases e:x≤y
 ·rw[decide_eq_true e];exact h1 e
 ·rw[decide_eq_false e];exact h2 (by omega)⟩
instance:Arm (nN (eqI x y) A B) (BrA (x=y) (x≠y) A B):=⟨fun⟨h1,h2⟩=>by
 rw[dO]
 by_cases e:x=y
 ·rw[decide_eq_true e];exact h1 e
 ·rw[decide_eq_false e];exact h2 e⟩
instance:Arm (nN (eqS s t) A B) (BrA (s=t) (s≠t) A B):=⟨fun⟨h1,h2⟩=>by
 rw[sS]
 by_cases e:s=t
 ·rw[decide_eq_true e];exact h1 e
 ·rw[decide_eq_false e];exact h2 e⟩
theorem Mc{s:ByteArray}(h:s≠⟨#[]⟩):0<s.size:=by
 rcases Nat.eq_zero_or_pos s.size with h0|h0
 ·exact absurd (ByteArray.ext (Array.eq_empty_of_size_eq_zero h0)) h
 ·exact h0
instance(priority:=high):Arm (nN (eqS s ⟨#[]⟩) A B) (BrA (s=⟨#[]⟩) (s≠⟨#[]⟩∧0<s.size) A B):=⟨fun⟨h1,h2⟩=>by
 rw[sS]
 by_cases e:s=⟨#[]⟩
 ·rw[decide_eq_true e];exact h1 e
 ·rw[decide_eq_false e];exact h2 ⟨e,Mc e⟩⟩
instance{α:Type}{f:α→List F}{L:List α}{i:Nat}{k:List F→Prop}:Arm (x5 (L.map f)[i]? k) (ExS (i<L.length) fun h=>k (f (L[i]'h))):=⟨fun⟨h,hk⟩=>by
 have h':i<L.length:=h;rw[List.getElem?_map,List.getElem?_eq_getElem h'];exact hk⟩
instance{s:ByteArray}{i:Nat}{k:UInt8→Prop}:Arm (x5 s.data.toList[i]? k) (ExS (i<s.size) fun h=>k (s.data.toList[i]'h)):=⟨fun⟨h,hk⟩=>by
 have h':i<s.data.toList.length:=h;rw[List.getElem?_eq_getElem h'];exact hk⟩
instance(priority:=low){α:Type}{xs:List α}{i:Nat}{k:α→Prop}:Arm (x5 xs[i]? k) (ExK xs[i]? k):=⟨fun⟨y,h,hk⟩=>by
 have h':xs[i]?=some y:=h;rw[h'];exact hk⟩
instance{α:Type}{xs:List α}{i j:Nat}{y:α}{k:α→Prop}:Arm (x5 (xs.set i y)[j]? k) (OrA (i≠j) (x5 xs[j]? k) (OrA (i=j∧j<xs.length) (k y) (ExK (xs.set i y)[j]? k))):=⟨fun⟨h⟩=>by
 rcases h with⟨h,hk⟩|⟨⟨⟨h,h2⟩,hk⟩|⟨z,h,hk⟩⟩
 ·have h':i≠j:=h;rw[List.getElem?_set_ne h'];exact hk
 ·subst h;rw[List.getElem?_set_self h2];exact hk
 ·rw[h];exact hk⟩
instance{k:Nat→Prop}:Arm (Ns x k) (SdA (0≤x) (k x.toNat)):=⟨fun⟨h,hk⟩=>by
 have h':0≤x:=h
 cases x with
 |ofNat i=>exact hk
 |negSucc i=>omega⟩
instance(priority:=low){k:Int→Prop}:Arm (FM x k) (k x):=⟨fun h=>⟨x,rfl,h⟩⟩
instance{k:Int→Prop}:Arm (FM (IntKind.i64.wrap x) k) (OrA (-9223372036854775808≤x∧x≤9223372036854775807) (k x) (k (IntKind.i64.wrap x))):=⟨fun⟨h⟩=>by
 rcases h with⟨h,hk⟩|hk
 ·exact⟨x,wrap_i64 (by unfold I64;exact h),hk⟩
 ·exact⟨_,rfl,hk⟩⟩
instance{k:Int→Prop}:Arm (FM (IntKind.u8.wrap x) k) (OrA (0≤x∧x≤255) (k x) (k (IntKind.u8.wrap x))):=⟨fun⟨h⟩=>by
 rcases h with⟨h,hk⟩|hk
 ·exact⟨x,wrap_u8 h,hk⟩
 ·exact⟨_,rfl,hk⟩⟩
instance{k:Int→Prop}:Arm (FM (IntKind.u64.wrap x) k) (OrA (0≤x∧x≤18446744073709551615) (k x) (k (IntKind.u64.wrap x))):=⟨fun⟨h⟩=>by
 rcases h with⟨h,hk⟩|hk
 ·exact⟨x,wrap_u64 h,hk⟩
 ·exact⟨_,rfl,hk⟩⟩
instance{l m:List Int}:Arm (nN (wx l m) A B) (BrA (l=m) (l≠m) A B):=⟨fun⟨h1,h2⟩=>by
 rw[oJ]
 by_cases e:l=m
 ·rw[decide_eq_true e];exact h1 e
 ·rw[decide_eq_false e];exact h2 e⟩
end
structure FoA{α:Type}(l:α)(k k':α→Prop):Prop where
 h:k' l∨∃l',l=l'∧k l'
theorem FoA.m{α:Type}{l l':α}{k k':α→Prop}(h:Kn (l=l'))(hk:k l'):FoA l k k':=⟨.inr ⟨l',h.h,hk⟩⟩
instance(priority:=low){l:List D}{k:List D→Prop}:Arm (D.fos l k) (FoA l (fun l=>D.fos l k) k):=⟨fun⟨h⟩=>by
 rcases h with h|⟨l',rfl,h⟩
 ·rw[D.ct];exact h
 ·exact h⟩
class lb{α:Type}(f:α→List F)(n:outParam Nat):Prop where
 h:∀x,(f x).length=n
theorem tv{α:Type}{f:α→List F}{n:Nat}[h:lb f n](L:List α):kV n (L.map f)=true:=by
 simp only[kV,List.all_map,List.all_eq_true];intro x _;show Nat.beq (f x).length n=true
 rw[h.h];exact Nat.beq_refl n
instance{α:Type}{f:α→List F}{n:Nat}{L:List α}{k:Prop}[lb f n]:Arm (eR (kV n (L.map f)) k) k:=⟨fun h=>by rw[tv];exact h⟩
instance{α:Type}{f:α→List F}{n:Nat}{L:List α}{k:Prop}[lb f n]:Arm (eR (pA n (L.map f)) k) k:=⟨fun h=>by rw[show pA n (L.map f)=kV n (L.map f)from rfl,tv];exact h⟩
instance{P:Program}{Γ:Nat→Option (List F)}{f:Nat}{l:List F}{r:F}{b:Bool}{pre:Prop}{k:F×Bool→Prop}[hc:KC P Γ f l r b pre]:Arm (qN P Γ f l k) (SdA pre (k (r,b))):=⟨fun⟨h,hk⟩=>⟨(r,b),hc.h h,hk⟩⟩
theorem aq.r{x:F}{b:Bool}:aq (x,b) (x,false):=⟨rfl,fun h=>(by cases h)⟩
theorem aq.t{x:F}{b:Bool}(h:b=true):aq (x,b) (x,true):=⟨rfl,fun _=>h⟩
theorem aq.i{x y:F}{b:Bool}(h:x=y):aq (x,b) (y,false):=⟨h,fun h=>(by cases h)⟩
theorem aq.j{x y:F}{b:Bool}(h:x=y)(hb:b=true):aq (x,b) (y,true):=⟨h,fun _=>hb⟩
theorem aq.b{a b c:Bool}(h:a=b)(hc:c=true):aq (.vl (.bool a),c) (.vl (.bool b),true):=⟨by rw[h],fun _=>hc⟩
theorem aq.n{a b:Int}{c:Bool}(h:a=b)(hc:c=true):aq (.vl (.int .i64 a),c) (.vl (.int .i64 b),true):=⟨by rw[h],fun _=>hc⟩
theorem aq.s{a b:ByteArray}{c:Bool}(h:a=b)(hc:c=true):aq (.vl (.string a),c) (.vl (.string b),true):=⟨by rw[h],fun _=>hc⟩
theorem Hp.ren{c:Cf}{O:Nat→Nat→Prop}{η:Env}{w:World}{m:Rn}{kc:List Nat}{h h':List (Nat×B)}(hp:Hp c O η w)(ho:bL m=true)(hη:∀b x,lk h b=some x→η b=some x)(hr:cG m kc h m 0=some h'):Hp (rC m c) (rO m O) (lk h') w:=by
 refine⟨fun i x' hx'=>?_,fun i v y hy=>?_,fun i j g hi hj=>?_,fun g hg=>?_,fun i g hi=>?_⟩
 ·obtain⟨_,b,x,k1,k2,k3⟩:=gR hr hx';rw[Nat.sub_zero]at k1;have hS:rO m O i=O b:=funext fun g=>propext ⟨fun⟨b',v',e,hO⟩=>by rw[k1]at e;cases e;exact hO,fun hO=>⟨b,_,k1,hO⟩⟩
  rw[hS];exact C5 k1 k3 (hp.pc b x (hη b x k2))
 ·simp only[rC,rι]at hy
  split at hy
  ·rename_i b v0 hm;obtain⟨x',hx'⟩:=ph hr hm;rw[Nat.zero_add]at hx';exact⟨x',hx',Nat.zero_le _⟩
  ·cases hy
 ·obtain⟨b,v,e1,o1⟩:=hi;obtain⟨b',v',e2,o2⟩:=hj;have:=hp.apart b b' g o1 o2;subst this;exact oT ho e1 e2
 ·obtain⟨k1,k2,k3⟩:=hp.fz g hg;exact⟨k1,k2,fun i ⟨b,v,_,o⟩=>k3 b o⟩
 ·obtain⟨b,v,_,o⟩:=hi;exact hp.lt b g o
section
variable {m:Rn}{c c4:Cf} (hι:∀i b v,m[i]?=some (b,v)→c4.ι b v=c.ι i 0) (hZ:c4.Z=c.Z) (hR:c4.R=c.R)
include hι hZ hR
mutual
theorem vj:∀{d d':D}{u:Value},bj m d=some d'→D.rep c d' u→D.rep c4 d u
 |.fr x,d',u,h,hd=>by simp only[bj]at h;cases h;unfold D.rep at hd ⊢;rw[hZ,hR];exact hd
 |.fx x,d',u,h,hd=>by simp only[bj]at h;cases h;unfold D.rep at hd ⊢;rw[hZ,hR];exact hd
 |.ag l,d',u,h,hd=>by
  simp only[bj]at h
  split at h<;>cases h
  rename_i l' hl;unfold D.rep at hd ⊢;obtain⟨vs,h1,h2⟩:=hd;exact⟨vs,h1,dC hl h2⟩
 |.tp l,d',u,h,hd=>by
  simp only[bj]at h
  split at h<;>cases h
  rename_i l' hl;unfold D.rep at hd ⊢;obtain⟨vs,h1,h2⟩:=hd;exact⟨vs,h1,dC hl h2⟩
 |.cl f l,d',u,h,hd=>by
  simp only[bj]at h
  split at h<;>cases h
  rename_i l' hl;unfold D.rep at hd ⊢;obtain⟨vs,h1,h2⟩:=hd;exact⟨vs,h1,dC hl h2⟩
 |.mcl f k l,d',u,h,hd=>by
  simp only[bj]at h
  split at h<;>cases h
  rename_i k' l' hk hl;unfold D.rep at hd ⊢;obtain⟨us,vs,h1,h2,h3⟩:=hd;exact⟨us,vs,h1,dC hk h2,dC hl h3⟩
 |.ptr b v o,d',u,h,hd=>by
  simp only[bj]at h
  split at h<;>cases h
  rename_i i hi;have:=(dK hi).2;rw[Nat.sub_zero]at this;unfold D.rep at hd ⊢
  rwa [hι _ _ _ this]
 |.rp b v sz j o,d',u,h,hd=>by
  simp only[bj]at h
  split at h<;>cases h
  rename_i i hi;have:=(dK hi).2;rw[Nat.sub_zero]at this;unfold D.rep at hd ⊢
  rwa [hι _ _ _ this]
 |.own b v,d',u,h,hd=>by
  simp only[bj]at h
  split at h<;>cases h
  rename_i i hi;have:=(dK hi).2;rw[Nat.sub_zero]at this;unfold D.rep at hd ⊢
  rwa [hι _ _ _ this]
 |.mv b v,d',u,h,hd=>by
  simp only[bj]at h
  split at h<;>cases h
  rename_i i hi;have:=(dK hi).2;rw[Nat.sub_zero]at this;unfold D.rep at hd ⊢
  rwa [hι _ _ _ this]
 |.yl b v,d',u,h,hd=>by
  simp only[bj]at h
  split at h<;>cases h
  rename_i i hi;have:=(dK hi).2;rw[Nat.sub_zero]at this;unfold D.rep at hd ⊢
  rwa [hι _ _ _ this]
 |.sub b v sz lo hi ex,d',u,h,hd=>by
  simp only[bj]at h
  split at h<;>cases h
  rename_i i hi;have:=(dK hi).2;rw[Nat.sub_zero]at this;unfold D.rep at hd ⊢
  rwa [hι _ _ _ this]
theorem dC:∀{d d':List D}{u:List Value},aO m d=some d'→D.ah c d' u→D.ah c4 d u
 |[],d',u,h,hd=>by simp only[aO]at h;cases h;unfold D.ah at hd ⊢;exact hd
 |x::l,d',u,h,hd=>by
  simp only[aO]at h
  split at h<;>cases h
  rename_i x' l' hx hl;unfold D.ah at hd ⊢;obtain⟨a,b,h1,h2,h3⟩:=hd;exact⟨a,b,h1,vj hx h2,dC hl h3⟩
end
theorem DO{b i:Nat}{x x':B}{S:Nat→Prop}{w:World}(hi:m[i]?=some (b,x.ver))(h:ez m [] x=some x')(hl:(match x with | .lp _ l=>l.s.isEmpty|_=>true)=true)(hx:x'.on c i S w):x.on c4 b S w:=by
 have hι':=hι _ _ _ hi
 cases x with
 |va v t cs=>
  simp only[ez]at h
  split at h<;>cases h
  rename_i cs' hcs;obtain⟨g,vs,h1,h2,h3,h4⟩:=hx;exact⟨g,vs,hι'.trans h1,dC hι hZ hR hcs h2,h3,h4⟩
 |ro v e sz rows=>
  simp only[ez]at h
  cases h;obtain⟨A,k,vr,h1,h2,h3,h4⟩:=hx;exact⟨A,k,vr,hι'.trans h1,by rw[hZ,hR];exact h2,h3,h4⟩
 |gone v=>cases h
 |mp v rows=>
  simp only[ez]at h
  cases h;obtain⟨g,es,k,h1,h2,h3,h4⟩:=hx;exact⟨g,es,k,hι'.trans h1,h2,h3,by rw[hZ,hR];exact h4⟩
 |lp v l=>
  simp only[ez]at h
  split at h<;>cases h
  rename_i j hj;obtain⟨g,L,gd,h1,h2,h3,h4,h5,h6,h7,h8,h9,h10,h11,h12⟩:=hx;have hs:l.s=[]:=by simpa using hl
  have hj':=(dK hj).2;rw[Nat.sub_zero]at hj';exact⟨g,L,gd,hι'.trans h1,h2,h3,h4,h5,h6,h7,h8,h9,⟨h10.size,fun k d hk=>by rw[hs]at hk;cases hk⟩,(hι _ _ _ hj').trans h11,h12⟩
 |df v=>
  simp only[ez]at h
  cases h;obtain⟨gs,h1,h2,h3⟩:=hx;exact⟨gs,h1.of hι',h2,h3⟩
 |gh v vs ds=>
  simp only[ez]at h
  split at h<;>cases h
  rename_i ds' hds;exact dC hι hZ hR hds hx
 |ab v a=>
  simp only[ez]at h
  cases h;obtain⟨g,h1,h2⟩:=hx;exact⟨g,hι'.trans h1,by rw[hZ,hR];exact h2⟩
end
structure uz where
 d:D
 h:List (Nat×B)
mutual
theorem EW(m:Rn):∀x:F,bj m x.Am=some x.Am
 |.ag cs=>by simp only[F.Am,bj,kk]
 |.vl _=>rfl
 |.sl _=>rfl
 |.tp _=>rfl
 |.cl _ _=>rfl
 |.pt _ _ _ _=>rfl
 |.mp _=>rfl
theorem kk(m:Rn):∀l:List F,aO m (l.map D.fr)=some (l.map D.fr)
 |[]=>rfl
 |x::l=>by simp only[List.map_cons,aO,bj,kk m l]
end
theorem sX(m:Rn):∀l:List F,aO m (l.map F.Am)=some (l.map F.Am)
 |[]=>rfl
 |x::l=>by simp only[List.map_cons,aO,EW,sX m l]
theorem js(m:Rn):∀x:F,bj m x.toD=some x.toD
 |.ag cs=>by simp only[F.toD,bj,kk]
 |.tp cs=>by simp only[F.toD,bj,sX]
 |.vl _=>rfl
 |.sl _=>rfl
 |.cl _ _=>rfl
 |.pt _ _ _ _=>rfl
 |.mp _=>rfl
theorem dR(m:Rn):∀l:List F,aO m (l.map F.toD)=some (l.map F.toD)
 |[]=>rfl
 |x::l=>by simp only[List.map_cons,aO,js,dR m l]
instance:ix uz:=⟨fun r d h=>∃x is m,D.toF (lk h) 6 d=some (x,is)∧bL m=true∧x.toD=r.d∧cG m [] (aU (lk h) is++h) m 0=some r.h⟩
structure cR(d:D)(h:List (Nat×B))(r:uz):Prop where
 h:d=r.d∧h=r.h
def ghD:List (Nat×B)→List (Nat×Nat)
 |[]=>[]
 |(_,.gh _ _ ds)::l=>rH ds++ghD l
 |_::l=>ghD l
instance:mN uz where
 fin r d h:=match D.toF (lk h) 6 d with
  |some (x,is)=>F.fo x fun x=>mH (aU (lk h) is++h) fun h=>iM (reach [] h 10000 (ghD h++iF h) []) fun m=>eR (bL m) (match cG m [] h m 0 with
   |some h'=>D.fo x.toD fun d'=>mH h' fun h'=>cR d' h' r
   |none=>False)
  |none=>False
 ok r d h hf:=by
  split at hf
  ·rename_i x is hx;rw[F.jh,iv,fD]at hf
   cases ho:bL (reach [] (aU (lk h) is++h) 10000 (ghD (aU (lk h) is++h)++iF (aU (lk h) is++h)) [])with
   |false=>rw[ho]at hf;exact hf.elim
   |true=>
    rw[ho]at hf
    change (match cG _ [] _ _ 0 with|some h'=>D.fo x.toD fun d'=>mH h' fun h'=>cR d' h' r|none=>False)at hf
    split at hf
    ·rename_i h' h2;rw[D.jh,iv]at hf;exact⟨x,is,_,hx,ho,hf.h.1,by rw[h2,hf.h.2]⟩
    ·exact hf.elim
  ·exact hf.elim
theorem IB(e h:List (Nat×B)):Res.lk2 e (lk h)=lk (e++h):=by
 induction e with
 |nil=>rfl
 |cons a e ih=>
  obtain⟨j,y⟩:=a;show up (Res.lk2 e (lk h)) j y=_
  rw[ih,List.cons_append,bU]
theorem rZ{α:Type}(h:List (Nat×α))(k:Nat)(x:α)(i:Nat):lk (h++[(k,x)]) i=match lk h i with|some y=>some y|none=>bif Nat.beq k i then some x else none:=by
 induction h with
 |nil=>rfl
 |cons a h ih=>
  obtain⟨j,y⟩:=a;simp only[List.cons_append,lk,ih]
  cases Nat.beq j i<;>rfl
theorem qz:∀{m:Rn}{b v i:Nat} (k:Nat),bL m=true→m[i]?=some (b,v)→cc m b v k=some (k+i)
 |[],b,v,i,k,_,h=>by simp at h
 |(b0,v0)::m,b,v,i,k,ho,h=>by
  simp only[bL,Bool.and_eq_true,Bool.not_eq_true',List.any_eq_false]at ho;simp only[cc]
  cases i with
  |zero=>
   simp at h;obtain⟨rfl,rfl⟩:=h;simp
  |succ i=>
   simp at h;have hne:Nat.beq b b0=false:=by
    rw[←Bool.not_eq_true];intro e;have:=Nat.eq_of_beq_eq_true e;subst this;exact ho.1 _ (List.mem_of_getElem? h) (by simp)
   rw[hne];simp only[cond_false];rw[qz (k+1) ho.2 h]
   congr 1
   omega
theorem px:∀{e:List (Nat×B)}{η:Env}{b:Nat}{x:B},lk e b=some x→Res.lk2 e η b=some x
 |[],η,b,x,h=>by cases h
 |(j,y)::e,η,b,x,h=>by
  simp only[lk]at h;simp only[Res.lk2,up]
  cases hj:Nat.beq j b with
  |true=>rw[hj]at h;exact h
  |false=>rw[hj]at h;exact px h
theorem tY:∀{e:List (Nat×B)}{η:Env}{b:Nat},lk e b=none→Res.lk2 e η b=η b
 |[],η,b,h=>rfl
 |(j,y)::e,η,b,h=>by
  simp only[lk]at h;simp only[Res.lk2,up]
  cases hj:Nat.beq j b with
  |true=>rw[hj]at h;cases h
  |false=>rw[hj]at h;exact tY h
structure vA(η:Env)(l:List D)(bs:List Nat)(μ:Rn)(ds':List D)(rd:List Nat)(e:List (Nat×B)):Prop where
 once:bL μ=true
 m0e:∀b∈bs,∃x,lk e b=some x
 erd:∀b x,lk e b=some x→b∈rd
 kind:∀b x,lk e b=some x→(match x with | .lp _ l=>l.s.isEmpty | .gh _ _ _=>false|_=>true)=true∧((∃i:Nat,μ[i]?=some (b,x.ver))∨∃v,x=.gone v)
 ver:∀b x y,lk e b=some x→η b=some y→y.ver≤x.ver
 cv:∀(i b v:Nat),μ[i]?=some (b,v)→v=nv η b∨(∃j o:Nat,l[j]?=some (.ptr b v o)∧ds'[j]?=some (.ptr i 0 o))∨(∃j:Nat,l[j]?=some (.own b v)∧ds'[j]?=some (.own i 0))∨∃j:Nat,l[j]?=some (.yl b v)∧ds'[j]?=some (.yl i 0)
theorem Ef{h h':List (Nat×B)}{m:Rn}{kc:List Nat}(hm:cG m kc h m 0=some h')(i:Nat)(x:B)(hx:lk h' i=some x):i<m.length:=by
 obtain⟨_,b,y,k1,_⟩:=gR hm hx;rw[Nat.sub_zero]at k1;exact(List.getElem?_eq_some_iff.1 k1).1
theorem pX {η η':Env}{l:List D}{bs:List Nat}{μ:Rn}{ds':List D}{rd:List Nat}{e h'':List (Nat×B)}{d d':D} (hs:vA η l bs μ ds' rd e) (hd:bj μ d=some d') (he:cG μ [] e μ 0=some h'')
  (hη':∀b∈rd,η' b=η b) {W:Bs}{c c3:Cf}{O O3:Nat→Nat→Prop}{w w':World}{us:List Value}{v:Value} (hp:Hp c O η' w) (hold:Old W c O w) (hvx:D.ah c l us)
  (p3:Hp c3 O3 (lk (h''++[(μ.length,.gh 0 us ds')])) w') (q9:Old ⟨w,fun g=>∃b∈bs,O b g,c⟩ c3 O3 w') (hv3:D.rep c3 d' v):Res W η' c (Is3 d rd e) v w':=by
 have hgn:lk h'' μ.length=none:=by
  cases h:lk h'' μ.length with
  |none=>rfl
  |some x=>exact absurd (Ef he _ _ h) (Nat.lt_irrefl _)
 have hg3:D.ah c3 ds' us:=p3.pc μ.length (.gh 0 us ds') (by rw[rZ,hgn];simp);have hlive:∀i b v,μ[i]?=some (b,v)→∃x x',lk e b=some x∧x.ver=v∧ez μ [] x=some x'∧lk h'' i=some x':=by
  intro i b v hi;obtain⟨x',hx'⟩:=ph he hi;rw[Nat.zero_add]at hx';obtain⟨_,b',x,k1,k2,k3⟩:=gR he hx';rw[Nat.sub_zero,hi]at k1
  cases k1;exact⟨x,x',k2,rfl,k3,hx'⟩
 let c4:Cf:=⟨fun b v=>match cc μ b v 0 with|some i=>c3.ι i 0|none=>c.ι b v,c3.R,c3.Z⟩
 have hι:∀i b v,μ[i]?=some (b,v)→c4.ι b v=c3.ι i 0:=by
  intro i b v hi;show(match cc μ b v 0 with|some i=>c3.ι i 0|none=>c.ι b v)=_
  rw[qz 0 hs.once hi,Nat.zero_add]
 have hle:c.le c4:=by
  refine⟨fun b v x hx=>?_,q9.le⟩;show(match cc μ b v 0 with|some i=>c3.ι i 0|none=>c.ι b v)=some x
  cases hpos:cc μ b v 0 with
  |none=>exact hx
  |some i=>
   have hi:=(dK hpos).2;rw[Nat.sub_zero]at hi;obtain⟨y,y',k1,k2,k3,k4⟩:=hlive i b v hi;rcases hs.cv i b v hi with rfl|⟨j,o,g1,g2⟩|⟨j,g1,g2⟩|⟨j,g1,g2⟩
   ·exfalso
    have:=hp.fresh b;rw[cM (hη' b (hs.erd b y k1)),hx]at this
    cases this
   ·obtain⟨u,hu1,hu2⟩:=D.b5 hvx g1;obtain⟨u',hu3,hu4⟩:=D.b5 hg3 g2;rw[hu1]at hu3
    cases hu3;unfold D.rep at hu2 hu4;obtain⟨g,a1,a2⟩:=hu2;obtain⟨g',a3,a4⟩:=hu4;rw[a2]at a4
    cases a4;simp only;rw[a3,←a1,hx]
   ·obtain⟨u,hu1,hu2⟩:=D.b5 hvx g1;obtain⟨u',hu3,hu4⟩:=D.b5 hg3 g2;rw[hu1]at hu3
    cases hu3;unfold D.rep at hu2 hu4;obtain⟨A1,m1,k1',a1,a2⟩:=hu2;obtain⟨A2,m2,k2',a3,a4⟩:=hu4;rw[a2]at a4
    cases a4;simp only;rw[a3,←a1,hx]
   ·obtain⟨u,hu1,hu2⟩:=D.b5 hvx g1;obtain⟨u',hu3,hu4⟩:=D.b5 hg3 g2;rw[hu1]at hu3
    cases hu3;unfold D.rep at hu2 hu4;obtain⟨g,a1,a2⟩:=hu2;obtain⟨g',a3,a4⟩:=hu4;rw[a2]at a4
    cases a4;simp only;rw[a3,←a1,hx]
 have hO4:∀b g,O b g→lk e b=none→¬∃b∈bs,O b g:=by
  intro b g h1 h2 h3;obtain⟨b',k1,k2⟩:=h3;have:=hp.apart b b' g h1 k2;subst this;obtain⟨x,hx⟩:=hs.m0e b k1;rw[h2]at hx
  cases hx
 have hnew:∀i g,O3 i g→(∃b∈bs,O b g)∨w.heap.size≤g:=fun i g h=>q9.own i g h
 refine⟨d,rd,e,c4,fun b g=>(∃i v,μ[i]?=some (b,v)∧O3 i g)∨(lk e b=none∧O b g),⟨rfl,rfl,rfl⟩,hle,vj hι rfl rfl hd hv3,⟨fun b x hx=>?_,fun b u y hy=>?_,fun b b' g h1 h2=>?_,fun g hg=>?_,fun b g hg=>?_⟩,?_⟩
 ·cases hl:lk e b with
  |some y=>
   rw[px hl]at hx
   cases hx;obtain⟨k1,k2⟩:=hs.kind b _ hl;rcases k2 with⟨i,hi⟩|⟨v,rfl⟩
   ·obtain⟨z,x',l1,l2,l3,l4⟩:=hlive i b _ hi;rw[hl]at l1
    cases l1;have hS:(fun g=>(∃i v,μ[i]?=some (b,v)∧O3 i g)∨(some x=none∧O b g))=O3 i:=by
     funext g
     refine propext ⟨fun h=>?_,fun h=>.inl ⟨i,_,hi,h⟩⟩;rcases h with⟨i',v',e1,e2⟩|⟨e1,_⟩
     ·rw[oT hs.once hi e1];exact e2
     ·cases e1
    rw[hS];refine DO hι rfl rfl hi l3 ?_ (p3.pc i x' (by rw[rZ,l4]))
    revert k1
    cases x<;>simp
   ·trivial
  |none=>
   rw[tY hl]at hx;have hS:(fun g=>(∃i v,μ[i]?=some (b,v)∧O3 i g)∨((none:Option B)=none∧O b g))=O b:=by
    funext g
    refine propext ⟨fun h=>?_,fun h=>.inr ⟨rfl,h⟩⟩;rcases h with⟨i',v',e1,e2⟩|⟨_,h⟩
    ·obtain⟨z,x',l1,_⟩:=hlive i' b _ e1;rw[hl]at l1
     cases l1
    ·exact h
   rw[hS];exact(hp.pc b x hx).le hle fun g hg=>q9.cv g (hp.lt b g hg) (hO4 b g hg hl)
 ·have hy':(match cc μ b u 0 with|some i=>c3.ι i 0|none=>c.ι b u)=some y:=hy
  cases hpos:cc μ b u 0 with
  |some i=>
   have hi:=(dK hpos).2;rw[Nat.sub_zero]at hi;obtain⟨z,x',l1,l2,_⟩:=hlive i b u hi;exact⟨z,px l1,by rw[l2];exact Nat.le_refl _⟩
  |none=>
   rw[hpos]at hy';obtain⟨x,hx,hv⟩:=hp.bound b u y hy'
   cases hl:lk e b with
   |some z=>
    have:=hs.ver b z x hl (by rw[←hη' b (hs.erd b z hl)];exact hx);exact⟨z,px hl,Nat.le_trans hv this⟩
   |none=>exact⟨x,by rw[tY hl];exact hx,hv⟩
 ·rcases h1 with⟨i,v1,e1,o1⟩|⟨n1,o1⟩<;>rcases h2 with⟨j,v2,e2,o2⟩|⟨n2,o2⟩
  ·have:=p3.apart i j g o1 o2;subst this;rw[e1]at e2
   cases e2;rfl
  ·exfalso
   rcases hnew i g o1 with h|h
   ·exact hO4 b' g o2 n2 h
   ·have:=hp.lt b' g o2;omega
  ·exfalso
   rcases hnew j g o2 with h|h
   ·exact hO4 b g o1 n1 h
   ·have:=hp.lt b g o1;omega
  ·exact hp.apart b b' g o1 o2
 ·obtain⟨k1,k2,k3⟩:=p3.fz g hg;refine⟨k1,k2,fun b h=>?_⟩;rcases h with⟨i,v1,e1,o1⟩|⟨n1,o1⟩
  ·exact k3 i o1
  ·rcases q9.mF g hg with h|h|h
   ·exact(hp.fz g h).2.2 b o1
   ·exact hO4 b g o1 n1 h
   ·have:=hp.lt b g o1;exact absurd h (Nat.not_le.2 this)
 ·rcases hg with⟨i,v1,e1,o1⟩|⟨n1,o1⟩
  ·exact p3.lt i g o1
  ·exact Nat.lt_of_lt_of_le (hp.lt b g o1) q9.size
 ·refine⟨q9.os.trans hold.os,q9.tape.trans hold.tape,q9.output.trans hold.output,Nat.le_trans hold.size q9.size,fun g hg hn=>?_,fun b g h=>?_,fun g hg=>?_,hold.le.trans q9.le⟩
  ·rw[q9.cv g (Nat.lt_of_lt_of_le hg hold.size) (fun h=>?_)]
   ·exact hold.cv g hg hn
   ·obtain⟨b,k1,k2⟩:=h;rcases hold.own b g k2 with h|h
    ·exact hn h
    ·omega
  ·rcases h with⟨i,v1,e1,o1⟩|⟨n1,o1⟩
   ·rcases hnew i g o1 with h|h
    ·obtain⟨b',k1,k2⟩:=h;exact hold.own b' g k2
    ·exact .inr (Nat.le_trans hold.size h)
   ·exact hold.own b g o1
  ·rcases q9.mF g hg with h|h|h
   ·exact hold.mF g h
   ·obtain⟨b',k1,k2⟩:=h;rcases hold.own b' g k2 with h|h
    ·exact .inr (.inl h)
    ·exact .inr (.inr h)
   ·exact .inr (.inr (Nat.le_trans hold.size h))
structure Iy(η:Env)(l:List D)(m0:Rn)(hb:List (Nat×B))(μ:Rn)(ds':List D)(rd:List Nat)(e:List (Nat×B)):Prop where
 once:bL m0=true
 NA:bL μ=true
 blk:∀b x,lk hb b=some x→η b=some x∧b∈rd
 m0e:∀b v,(b,v)∈m0→∃x,lk e b=some x
 erd:∀b x,lk e b=some x→b∈rd
 kind:∀b x,lk e b=some x→(match x with | .lp _ _=>false | .gh _ _ _=>false|_=>true)=true∧((∃i:Nat,μ[i]?=some (b,x.ver))∨∃v,x=.gone v)
 ver:∀b x y,lk e b=some x→η b=some y→y.ver≤x.ver
 cv:∀(i b v:Nat),μ[i]?=some (b,v)→v=nv η b∨(∃j o:Nat,l[j]?=some (.ptr b v o)∧ds'[j]?=some (.ptr i 0 o))∨∃j:Nat,l[j]?=some (.own b v)∧ds'[j]?=some (.own i 0)
theorem Iy.back{η:Env}{l:List D}{m0:Rn}{hb:List (Nat×B)}{μ:Rn}{ds':List D}{rd:List Nat}{e:List (Nat×B)}(h:Iy η l m0 hb μ ds' rd e):vA η l (m0.map (·.1)) μ ds' rd e:=
 ⟨h.NA,fun b hb=>by obtain⟨⟨b',v⟩,h1,rfl⟩:=List.mem_map.1 hb;exact h.m0e b' v h1,h.erd,fun b x hx=>⟨by have:=(h.kind b x hx).1;revert this;cases x<;>simp,(h.kind b x hx).2⟩,h.ver,fun i b v hi=>by
  rcases h.cv i b v hi with h|h|h
  ·exact .inl h
  ·exact .inr (.inl h)
  ·exact .inr (.inr (.inl h))⟩
theorem uq {P:Program}{X:Tx} (hX:iP P X) {f:FuncId}{fi:Fi} (hf:X.fi f=some fi) {η:Env}{l l0 x x0:List D}{m0 μ:Rn}{hb h0:List (Nat×B)}{d d':D}{ds':List D}{rd:List Nat}{e h'':List (Nat×B)}
  (ho:bL m0=true) (hbk:∀b x,lk hb b=some x→η b=some x∧b∈rd) (hs:vA η (l++x) (m0.map (·.1)) μ ds' rd e) (hm0:cG m0 [] hb m0 0=some h0) (hl:aO m0 l=some l0) (hxr:aO m0 x=some x0) (hxv:∀η' c O w,(∀b∈rd,η' b=η b)→Hp c O η' w→∃us,D.ah c x us) (hN:Nat.ble l0.length fi.N=true) (hd:bj μ d=some d') (he:cG μ [] e μ 0=some h'')
  (hrun:∀vs,Sn P X f (⟨d',h''++[(μ.length,.gh 0 vs ds')]⟩:uz) ⟨⟨f,fi.N,j9 0 l0,[.code fi.body],[],none⟩,[],(m0.length,.gh 0 vs (l0++x0))::h0,m0.length+1⟩):cT P X.Γ η f l d rd e:=by
 obtain⟨hcf,fn,hfn,hbd,hNn,hrs⟩:=hX.fi _ _ hf;refine⟨fun η' hη' W c O w vs hΓ hp hold hvs=>⟨hcf,fun cs=>?_⟩⟩;have hblk:∀b x,lk hb b=some x→η' b=some x:=fun b x hx=>(hη' b (hbk b x hx).2).trans (hbk b x hx).1
 have hp1:=Hp.ren hp ho hblk hm0;have hvs1:D.ah (rC m0 c) l0 vs:=bR hl hvs;obtain⟨us,hus⟩:=hxv η' c O w hη' hp;have hvx:=D.bw hvs hus;have hvx1:D.ah (rC m0 c) (l0++x0) (vs++us):=D.bw hvs1 (bR hxr hus);have hkeys:∀{h h':List (Nat×B)}{m:Rn},cG m [] h m 0=some h'→∀i x,lk h' i=some x→i<m.length:=by
  intro h h' m hm i x hx;obtain⟨_,b,y,k1,_⟩:=gR hm hx;rw[Nat.sub_zero]at k1;exact(List.getElem?_eq_some_iff.1 k1).1
 have hp2:Hp (rC m0 c) (rO m0 O) (lk ((m0.length,.gh 0 (vs++us) (l0++x0))::h0)) w:=by
  rw[bU];refine⟨fun i x hx=>?_,fun i v y hy=>?_,hp1.apart,hp1.fz,hp1.lt⟩
  ·by_cases e:m0.length=i
   ·subst e;rw[bf]at hx
    cases hx;exact hvx1
   ·rw[aG e]at hx;exact hp1.pc i x hx
  ·obtain⟨x,hx,hv⟩:=hp1.bound i v y hy;have:m0.length≠i:=by
    have:=hkeys hm0 i x hx;omega
   exact⟨x,by rw[aG this];exact hx,hv⟩
 have hlen:=D.aW hvs1;have hs0:=jR (N:=fi.N) hvs1 hN;have hrun:=hrun (vs++us);unfold Sn at hrun;obtain⟨v,w',fr,d0,h0',c0,O0,q1,q2,q3,⟨x0,is0,m,qx,qo,qe,qh⟩,q7,q8,q9⟩:=eL.fn (fun q h ⟨x,is,m,e,_⟩=>by simp[D.toF]at e) <| hrun ⟨w,fun g=>∃i,rO m0 O i g,rC m0 c⟩ cs hΓ (rC m0 c) (rO m0 O) ((bF f none).atR ⟨vs.toArray++Array.replicate (fi.N-vs.toArray.size) undef,[]⟩ [.code fi.body]) [] w
  ⟨⟨_,_,none,rfl,hs0,⟨_,_,rfl,rfl,rfl⟩,rfl,rfl⟩,rfl,hp2,⟨rfl,rfl,rfl,Nat.le_refl _,fun _ _ _=>rfl,fun i g h=>.inl ⟨i,h⟩,fun g hg=>.inl hg,Ext.refl _ _⟩,rfl⟩
 have q7:=o3 (c:=cfz c0 O0 is0 w') (jC q8 is0 6 d0 x0 is0 v qx (fun b h=>h) q7);have q9:=q9.fz_ q8 is0;have q8:=q8.fz_ is0 (gC 6 d0 x0 is0 qx);rw[IB]at q8;have qe:x0.toD=d':=qe;rw[qe]at q7;generalize cfz c0 O0 is0 w'=c2 at *;generalize Ofz O0 is0=O2 at *;generalize aU (lk h0') is0++h0'=h2 at *;have qd:bj m d'=some d':=by rw[←qe];exact js m x0
 have p3:=Hp.ren q8 qo (fun _ _ h=>h) qh;have hv3:=pa qd q7;have hW:∀g,(∃i,rO m0 O i g)→∃b∈m0.map (·.1),O b g:=fun g ⟨i,b,v,e1,e2⟩=>⟨b,List.mem_map.2 ⟨(b,v),List.mem_of_getElem? e1,rfl⟩,e2⟩
 refine⟨.returned v,w',fr,⟨v,rfl,pX hs hd he hη' hp hold hvx p3 ?_ hv3⟩,?_,q2,q3⟩
 ·exact⟨q9.os,q9.tape,q9.output,q9.size,fun g hg hn=>q9.cv g hg (fun h=>hn (hW g h)),fun i g ⟨b,v,_,h⟩=>(q9.own b g h).imp (hW g) id,fun g hg=>(q9.mF g hg).imp id (fun h=>h.imp (hW g) id),q9.le⟩
 ·rw[pd hfn hbd,hNn];exact q1
theorem jk {P:Program}{X:Tx} (hX:iP P X) {f:FuncId}{fi:Fi} (hf:X.fi f=some fi) {η:Env}{l l0 x x0:List D}{m0 μ:Rn}{hb h0:List (Nat×B)}{d d':D}{ds':List D}{rd:List Nat}{e h'':List (Nat×B)}
  (hs:Iy η (l++x) m0 hb μ ds' rd e) (hm0:cG m0 [] hb m0 0=some h0) (hl:aO m0 l=some l0) (hxr:aO m0 x=some x0) (hxv:∀η' c O w,(∀b∈rd,η' b=η b)→Hp c O η' w→∃us,D.ah c x us) (hN:Nat.ble l0.length fi.N=true) (hd:bj μ d=some d') (he:cG μ [] e μ 0=some h'')
  (hrun:∀vs,Sn P X f (⟨d',h''++[(μ.length,.gh 0 vs ds')]⟩:uz) ⟨⟨f,fi.N,j9 0 l0,[.code fi.body],[],none⟩,[],(m0.length,.gh 0 vs (l0++x0))::h0,m0.length+1⟩):cT P X.Γ η f l d rd e:=uq hX hf hs.once hs.blk hs.back hm0 hl hxr hxv hN hd he hrun
end Go.Km
end
