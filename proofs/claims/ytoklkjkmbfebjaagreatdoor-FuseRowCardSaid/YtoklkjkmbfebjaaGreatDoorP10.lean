/- The texts that the card needs, part 11. -/
import Derived.Test.YtoklkjkmbfebjaaGreatDoorP9
set_option linter.all false
section
namespace Go.Km
open Go Go.RowKit Go.Vc
open Go.Sl hiding lk
theorem dR.i{P:Program}{Γ:Nat→Option (List F)}{t f:Nat}{η:Env}{l:List D}{k:Kr Prop}{d:D}{rd:List Nat}{e:List (Nat×B)}(h:dp P Γ η f l d rd e)(hk:k d rd e):dR P Γ t η f l k:=⟨d,rd,e,h,hk⟩
theorem u6.i{P:Program}{Γ:Nat→Option (List F)}{t b v:Nat}{η:Env}{l:List D}{k:Kr Prop}{d:D}{rd:List Nat}{e:List (Nat×B)}(h:wg P Γ η b v l d rd e)(hk:k d rd e):u6 P Γ t η b v l k:=⟨d,rd,e,h,hk⟩
def AbH(H:List (Nat×B)):Ab where
 on g Z R S w:=∃(ι:Nat→Nat→Option (Option Addr×Nat×Nat)) (O:Nat→Nat→Prop),(∀b x,lk H b=some x→x.on ⟨ι,R,Z⟩ b (O b) w)∧(∀b v y,ι b v=some y→∃x,lk H b=some x∧v≤x.ver)∧(∀b b' i,O b i→O b' i→b=b')∧(∀b i,O b i→S i)∧ι 0 0=some (some ⟨g,0,none⟩,0,0)
 le:=by
  rintro g Z Z' R R' S w w' he hw ⟨ι,O,h1,h2,h3,h4,h5⟩
  exact⟨ι,O,fun b x hx=>B.on.le (c:=⟨ι,R,Z⟩) (c':=⟨ι,R',Z'⟩) ⟨fun _ _ _ h=>h,he⟩ (fun i hi=>hw i (h4 b i hi)) (h1 b x hx),h2,h3,h4,h5⟩
theorem AbH.out{H:List (Nat×B)}{c:Cf}{O:Nat→Nat→Prop}{η:Env}{w:World}{b g:Nat}(hp:Hp c O η w)(h:(AbH H).on g c.Z c.R (O b) w):∃(c1:Cf) (O1:Nat→Nat→Prop),c1.Z=c.Z∧c1.R=c.R∧Hp c1 O1 (lk H) w∧(∀i j,O1 i j→O b j)∧At0 c1 0 0 g:=by
 obtain⟨ι,O1,h1,h2,h3,h4,h5⟩:=h;exact⟨⟨ι,c.R,c.Z⟩,O1,rfl,rfl,⟨h1,h2,h3,fun i hi=>⟨(hp.fz i hi).1,(hp.fz i hi).2.1,fun j hj=>(hp.fz i hi).2.2 b (h4 j i hj)⟩,fun i j hj=>hp.lt b j (h4 i j hj)⟩,h4,h5⟩
theorem AbH.in_{H:List (Nat×B)}{c:Cf}{O:Nat→Nat→Prop}{w:World}{g:Nat}(hp:Hp c O (lk H) w)(hg:At0 c 0 0 g):(AbH H).on g c.Z c.R (fun j=>∃i,O i j) w:=⟨c.ι,O,hp.pc,hp.bound,hp.apart,fun b i h=>⟨b,h⟩,hg⟩
structure F8 where
 q:Bool
 kc:List Nat
 h:List (Nat×B)
instance:jl F8:=⟨fun r d h=>∃m,d=.mcl 0 [] [Bo r.q]∧b8 m=true∧dq m r.kc h m 0=some r.h⟩
structure Nz(q:Bool)(h:List (Nat×B))(r:F8):Prop where
 h:q=r.q∧h=r.h
instance:ou F8 where
 fin r d h:=match d with
  | .mcl 0 [] [.fr (.vl (.bool q))]=>kx (reach r.kc h 10000 (ghD h++na h) []) fun m=>gz (b8 m) (match dq m r.kc h m 0 with
   | some h'=>tf h' fun h'=>Nz q h' r
   | none=>False)
  | _=>False
 ok r d h hf:=by
  split at hf
  ·rename_i q;rw[gP] at hf
   cases ho:b8 (reach r.kc h 10000 (ghD h++na h) []) with
   | false=>rw[ho] at hf;exact hf.elim
   | true=>
    rw[ho] at hf
    change (match dq _ r.kc h _ 0 with|some h'=>tf h' fun h'=>Nz q h' r|none=>False) at hf
    split at hf
    ·rename_i h' h2;rw[mr] at hf;exact⟨_,by rw[hf.h.1];rfl,ho,by rw[h2,hf.h.2]⟩
    ·exact hf.elim
  ·exact hf.elim
theorem Ext.of_eq{c c1 c':Cf}(hZ:c1.Z=c.Z)(hR:c1.R=c.R)(h:Ext c1.Z c1.R c'.Z c'.R):Ext c.Z c.R c'.Z c'.R:=by rw[←hZ,←hR];exact h
theorem noι{c c1:Cf}(hZ:c1.Z=c.Z)(hR:c1.R=c.R):(rC [] c).le c1:=⟨fun b v x hx=>by cases v<;>simp[rC,rι] at hx,by show Ext c.Z c.R c1.Z c1.R;rw[hZ,hR];exact Ext.refl _ _⟩
theorem Nk{c c1:Cf}(hZ:c1.Z=c.Z)(hR:c1.R=c.R){l:List F}{us:List Value}(h:D.ah c (l.map D.fr) us):D.ah c1 (l.map D.fr) us:=D.ah.le (noι hZ hR) _ _ (cg (lH [] l) h)
theorem Lz{c c1:Cf}(hZ:c1.Z=c.Z)(hR:c1.R=c.R){l:List F}{us:List Value}(h:D.ah c (l.map F.toD) us):D.ah c1 (l.map F.toD) us:=D.ah.le (noι hZ hR) _ _ (cg (eH [] l) h)
theorem Iq{c:Cf}{b v:Nat}{ds:List D}{vs:List Value}(h:D.ah c (.yl b v :: ds) vs):∃g us,vs=.func (.yield g) #[] #[] :: us∧At0 c b v g∧D.ah c ds us:=by
 unfold D.ah at h;obtain⟨u,us,h1,h2,h3⟩:=h;unfold D.rep at h2;obtain⟨g,h4,h5⟩:=h2;exact⟨g,us,by rw[h1,h5],h4,h3⟩
theorem DM {P:Program} {X:Tx} {L:Vc.Lp} {H H':List (Nat×B)} {nx n n':Nat} {fl:List F} {q:Bool} {kc:List Nat} {vs:List Value} {ds ds':List D} (hL:lk H 0=some (.lp 0 L)) (hn:Nat.beq fl.length L.ps.length=true) (hps:(L.ps.all fun p=>Nat.blt p L.N)=true)
  (hg:lk H n=some (.gh 0 vs (.yl 0 0 :: ds))) (hg':lk H' n'=some (.gh 0 vs (.yl 0 0 :: ds')))
  (hrun:Sn P X L.f (⟨q,kc,H'⟩:F8) ⟨⟨L.f,L.N,z9 L.ps (fl.map D.fr) L.s,[.code L.asg,.br,.code L.body],[],some (0,0)⟩,[],H,nx⟩)
  {η:Env} {b v:Nat} (hb:η b=some (.ab v (AbH H))):wg P X.Γ η b v (fl.map D.fr) (Bo q) [b] [(b,.ab v (AbH H'))]:=by
 refine⟨fun η' hη W c O w us g hΓ hp hold hus hat=>?_⟩;have hb':η' b=some (.ab v (AbH H)):=(hη b (by simp)).trans hb;obtain⟨g1,e1,hon⟩:=hp.pc b _ hb';rw[show c.ι b v=_ from hat] at e1
 cases e1;obtain⟨c1,O1,z1,r1,hp1,hsub,hat1⟩:=AbH.out hp hon;obtain⟨g',L',gd,k1,k2,k3,k4,k5,k6,k7,k8,k9,k10,k11,k12⟩:=hp1.pc 0 _ hL;rw[show c1.ι 0 0=_ from hat1] at k1
 cases k1;have hus1:D.ah c1 (fl.map D.fr) us:=Nk z1 r1 hus;have hlen:=D.aW hus1;rw[List.length_map] at hlen;have hn:=Nat.eq_of_beq_eq_true hn;rw[List.all_eq_true] at hps;refine⟨L',k3,by rw[k7];simp;omega,fun fr1 cs=>?_⟩;have hz:=nb (N:=L.N) (ps:=L.ps) k10 hus1 (by rw[List.length_map];exact hn) (fun p hp=>bD (hps p hp));have e:∀(ps:List Nat) (vs:List Value) (t:Array Value),Array.foldl (fun tmps (x:Tmp×Value)=>tmps.setIfInBounds x.1 x.2) t (ps.toArray.zip vs.toArray)=(ps.zip vs).foldl (fun t (p:Nat×Value)=>t.setIfInBounds p.1 p.2) t:=by
  intro ps vs t;rw[←Array.foldl_toList,Array.toList_zip]
 rw[k6,k7,k8,k9,e L.ps us L'.tmps];generalize (L.ps.zip us).foldl (fun t (p:Nat×Value)=>t.setIfInBounds p.1 p.2) L'.tmps=tm at hz ⊢;unfold Sn at hrun;obtain⟨q',w',h,c',O',hst,⟨m,hm1,hm2,hm3⟩,hp',hold'⟩:=eY.rd (fun d h hd ⟨m,e,_⟩=>by subst e;cases hd) <| hrun ⟨w,fun j=>∃i,O1 i j,c1⟩ (fr1 :: cs) (hΓ.ext (by rw[z1,r1];exact Ext.refl _ _)) c1 O1 ((bF L.f (some g)).atR ⟨tm,[]⟩ [.code L.asg,.beginRound,.code L.body]) [] w
  ⟨⟨⟨tm,[]⟩,_,some g,rfl,hz,⟨_,_,rfl,rfl,_,_,rfl,rfl,_,_,rfl,rfl,rfl⟩,rfl,g,rfl,hat1⟩,rfl,hp1,⟨rfl,rfl,rfl,Nat.le_refl _,fun _ _ _=>rfl,fun i g h=>.inl ⟨i,h⟩,fun g hg=>.inl hg,Ext.refl _ _⟩,rfl⟩
 have hq:q'=q:=by
  simp only[D.mcl.injEq,true_and,List.cons.injEq,and_true,Bo,D.fr.injEq,F.vl.injEq,Value.bool.injEq] at hm1;exact hm1
 subst hq;have hst:=hst fr1 cs rfl;have p3:=Hp.ren hp' hm2 (fun _ _ h=>h) hm3;have hat3:At0 (rC m c') 0 0 g:=by
  obtain⟨ga,ua,a1,a2,_⟩:=Iq (hp1.pc n _ hg);obtain⟨gb,ub,b1,b2,_⟩:=Iq (p3.pc n' _ hg');rw[a1] at b1
  cases b1;have a3:c1.ι 0 0=some (some ⟨ga,0,none⟩,0,0):=a2;rw[show c1.ι 0 0=_ from hat1] at a3
  cases a3;exact b2
 have hle:c.le ⟨c.ι,c'.R,c'.Z⟩:=⟨fun _ _ _ h=>h,Ext.of_eq z1 r1 hold'.le⟩
 have hown:∀k j,rO m O' k j→O b j∨w.heap.size≤j:=by
  rintro k j ⟨b',v',_,h2⟩
  rcases hold'.own b' j h2 with ⟨i,h3⟩|h3
  ·exact .inl (hsub i j h3)
  ·exact .inr h3
 refine⟨.bool q',w',⟨Bo q',[b],[(b,.ab v (AbH H'))],⟨c.ι,c'.R,c'.Z⟩,fun i j=>(i=b∧∃k,rO m O' k j)∨(i≠b∧O i j),⟨rfl,rfl,rfl⟩,hle,aV _,?_,?_⟩,hst⟩
 ·show Hp _ _ (up η' b (.ab v (AbH H'))) w'
  refine⟨fun i x hx=>?_,fun i u y hy=>?_,fun i i' j h1 h2=>?_,fun j hj=>?_,fun i j hj=>?_⟩
  ·by_cases e:b=i
   ·subst e;rw[bj] at hx
    cases hx;have hS:(fun j=>(b=b∧∃k,rO m O' k j)∨(b≠b∧O b j))=fun j=>∃k,rO m O' k j:=by
     funext j
     simp
    rw[hS];exact⟨g,hat,AbH.in_ (c:=rC m c') p3 hat3⟩
   ·rw[aF e] at hx;have hS:(fun j=>(i=b∧∃k,rO m O' k j)∨(i≠b∧O i j))=O i:=by
     funext j
     simp[Ne.symm e]
    rw[hS];exact(hp.pc i x hx).le hle fun j hj=>hold'.b4 j (hp.lt i j hj) fun ⟨k,hk⟩=>e (hp.apart b i j (hsub k j hk) hj)
  ·obtain⟨x,hx,hv⟩:=hp.bound i u y hy
   by_cases e:b=i
   ·subst e;rw[hb'] at hx
    cases hx;exact⟨_,bj,hv⟩
   ·exact⟨x,by rw[aF e];exact hx,hv⟩
  ·rcases h1 with ⟨e1,k,g1⟩|⟨e1,g1⟩<;>rcases h2 with ⟨e2,k',g2⟩|⟨e2,g2⟩
   ·rw[e1,e2]
   ·exfalso
    rcases hown k j g1 with h|h
    ·exact e2 (hp.apart i' b j g2 h)
    ·have:=hp.lt i' j g2;omega
   ·exfalso
    rcases hown k' j g2 with h|h
    ·exact e1 (hp.apart i b j g1 h)
    ·have:=hp.lt i j g1;omega
   ·exact hp.apart i i' j g1 g2
  ·obtain⟨a1,a2,a3⟩:=p3.fz j hj;refine⟨a1,a2,fun i hi=>?_⟩;rcases hi with ⟨_,k,g1⟩|⟨e1,g1⟩
   ·exact a3 k g1
   ·rcases hold'.mW j hj with h|⟨k,h⟩|h
    ·rw[z1] at h;exact(hp.fz j h).2.2 i g1
    ·exact e1 (hp.apart i b j g1 (hsub k j h))
    ·have:=hp.lt i j g1;exact absurd h (Nat.not_le.2 this)
  ·rcases hj with ⟨_,k,g1⟩|⟨e1,g1⟩
   ·exact p3.lt k j g1
   ·exact Nat.lt_of_lt_of_le (hp.lt i j g1) hold'.size
 ·refine⟨hold'.os.trans hold.os,hold'.tape.trans hold.tape,hold'.output.trans hold.output,Nat.le_trans hold.size hold'.size,fun j hj hnj=>?_,fun i j hj=>?_,fun j hj=>?_,hold.le.trans hle.ext⟩
  ·rw[hold'.b4 j (Nat.lt_of_lt_of_le hj hold.size) (fun ⟨k,hk⟩=>?_)]
   ·exact hold.b4 j hj hnj
   ·rcases hold.own b j (hsub k j hk) with h|h
    ·exact hnj h
    ·omega
  ·rcases hj with ⟨_,k,g1⟩|⟨e1,g1⟩
   ·rcases hown k j g1 with h|h
    ·exact hold.own b j h
    ·exact .inr (Nat.le_trans hold.size h)
   ·exact hold.own i j g1
  ·rcases hold'.mW j hj with h|⟨k,h⟩|h
   ·rw[z1] at h;exact hold.mW j h
   ·rcases hold.own b j (hsub k j h) with h|h
    ·exact .inr (.inl h)
    ·exact .inr (.inr h)
   ·exact .inr (.inr (Nat.le_trans hold.size h))
def noS(H:List (Nat×B)):List (Nat×B):=H.map fun p=>(p.1,match p.2 with | .lp v l=>.lp v { l with s:=[] }|x=>x)
theorem B1:∀(H:List (Nat×B)) (i:Nat),lk (noS H) i=(lk H i).map fun x=>match x with | .lp v l=>.lp v { l with s:=[] }|x=>x
 | [],i=>rfl
 | (b,x) :: H,i=>by
  simp only[noS,List.map_cons,lk]
  cases Nat.beq b i with
  | true=>rfl
  | false=>exact B1 H i
theorem Hp.noS{H:List (Nat×B)}{c:Cf}{O:Nat→Nat→Prop}{w:World}(h:Hp c O (lk H) w):Hp c O (lk (Km.noS H)) w:=by
 refine⟨fun b x hx=>?_,fun b v y hy=>?_,h.apart,h.fz,h.lt⟩
 ·rw[B1] at hx
  cases e:lk H b with
  | none=>rw[e] at hx;cases hx
  | some x0=>
   rw[e] at hx;have h0:=h.pc b x0 e
   cases x0 with
   | lp v l=>
    cases hx;obtain⟨g,L,gd,h1,h2,h3,h4,h5,h6,h7,h8,h9,h10,h11,h12⟩:=h0;exact⟨g,L,gd,h1,h2,h3,h4,h5,h6,h7,h8,h9,⟨h10.size,fun k d hk=>by cases hk⟩,h11,h12⟩
   | _=>cases hx;exact h0
 ·obtain⟨x,hx,hv⟩:=h.bound b v y hy;rw[B1,hx];exact⟨_,rfl,by cases x<;>exact hv⟩
def Co(P:Program)(Γ:Nat→Option (List F))(f:FuncId)(fl:List D)(n:Nat)(ps:Nat→List D):Prop:=
 ∀A:Nat→Ab,(∀i,i<n→∀(η:Env) b v,η b=some (.ab v (A i))→wg P Γ η b v (ps i) (Bo true) [b] [(b,.ab v (A (i+1)))])→∀(η:Env) b v,η b=some (.ab v (A 0))→dp P Γ η f (.yl b v :: fl) (.tp []) [b] [(b,.ab v (A n))]
theorem Ax {P:Program} {Γ:Nat→Option (List F)} {f:FuncId} {fl:List F} {n:Nat} {ps:Nat→List D} (hit:Co P Γ f (fl.map F.toD) n ps) {η:Env} {H:List Value→Nat→List (Nat×B)} {b0 v0:Nat} {m0 μ:Rn} {kc:List Nat} {hb h0 e h'':List (Nat×B)} {x x0 ds':List D} {rd:List Nat}
  (hy:∀vs i,i<n→∀(η:Env) b v,η b=some (.ab v (AbH (H vs i)))→wg P Γ η b v (ps i) (Bo true) [b] [(b,.ab v (AbH (H vs (i+1))))])
  (hs:zb η (.yl b0 v0 :: x) (m0.map (·.1)) μ ds' rd e) (ho:b8 m0=true) (hblk:∀b y,lk hb b=some y→η b=some y∧b∈rd) (h00:m0[0]?=some (b0,v0))
  (hm0:dq m0 kc hb m0 0=some h0) (hx0:aN m0 x=some x0) (hxv:∀η' c O w,(∀b∈rd,η' b=η b)→Hp c O η' w→∃us,D.ah c x us) (he:dq μ [] e μ 0=some h'')
  (hH0:∀vs,H vs 0=h0++[(m0.length,.gh 0 vs (.yl 0 0 :: x0))]) (hHn:∀vs,noS (H vs n)=h''++[(μ.length,.gh 0 vs ds')]):dp P Γ η f (.yl b0 v0 :: fl.map F.toD) (.tp []) rd e:=by
 refine⟨fun η' hη' W c O w vs hΓ hp hold hvs=>?_⟩;have hp1:=Hp.ren hp ho (fun b y hy=>(hη' b (hblk b y hy).2).trans (hblk b y hy).1) hm0;obtain⟨g,vs1,rfl,hat,hfl⟩:=Iq hvs;obtain⟨us1,hus1⟩:=hxv η' c O w hη' hp;obtain⟨us,hus0⟩:=exEq (.func (.yield g) #[] #[] :: us1);have hus:D.ah c (.yl b0 v0 :: x) us:=by
  unfold D.ah;exact⟨_,us1,hus0,by unfold D.rep;exact⟨g,hat,rfl⟩,hus1⟩
 have hpos:cj m0 b0 v0 0=some 0:=by
  have:=pM 0 ho h00;simpa using this
 have hx1:D.ah (rC m0 c) (.yl 0 0 :: x0) us:=cg (by simp only[aN,bu,hpos,hx0]) hus;have hat0:At0 (rC m0 c) 0 0 g:=(gl hpos).trans hat;have hp2:Hp (rC m0 c) (rO m0 O) (lk (H us 0)) w:=by
  rw[hH0];refine⟨fun i y hy=>?_,fun i v y hy=>?_,hp1.apart,hp1.fz,hp1.lt⟩
  ·rw[rR] at hy
   cases hl:lk h0 i with
   | some z=>rw[hl] at hy;cases hy;exact hp1.pc i _ hl
   | none=>
    rw[hl] at hy
    cases hb:Nat.beq m0.length i with
    | false=>simp[hb] at hy
    | true=>
     simp only[hb,cond_true] at hy
     cases hy;exact hx1
  ·obtain⟨z,hz,hv⟩:=hp1.bound i v y hy;exact⟨z,by rw[rR,hz],hv⟩
 let c2:Cf:=⟨fun b v=>if b=b0∧v=v0 then c.ι b0 v0 else none,c.R,c.Z⟩
 let O2:Nat→Nat→Prop:=fun i j=>i=b0∧∃k,rO m0 O k j
 let η2:Env:=fun i=>if i=b0 then some (.ab v0 (AbH (H us 0))) else none
 have hO:∀j,(∃k,rO m0 O k j)→∃b∈m0.map (·.1),O b j:=fun j ⟨k,b,v,e1,e2⟩=>⟨b,List.mem_map.2 ⟨(b,v),List.mem_of_getElem? e1,rfl⟩,e2⟩
 have hat2:At0 c2 b0 v0 g:=by
  show(if b0=b0∧v0=v0 then c.ι b0 v0 else none)=_
  rw[if_pos ⟨rfl,rfl⟩];exact hat
 have hp3:Hp c2 O2 η2 w:=by
  refine⟨fun i y hy=>?_,fun i v y hy=>?_,fun i i' j h1 h2=>h1.1.trans h2.1.symm,fun j hj=>?_,fun i j hj=>?_⟩
  ·by_cases e:i=b0
   ·subst e;simp only[η2,if_true] at hy
    cases hy;have hS:O2 i=fun j=>∃k,rO m0 O k j:=by
     funext j
     simp[O2]
    rw[hS];exact⟨g,hat2,AbH.in_ (c:=rC m0 c) hp2 hat0⟩
   ·simp only[η2,e,if_false] at hy
    cases hy
  ·have hy':(if i=b0∧v=v0 then c.ι b0 v0 else none)=some y:=hy
   split at hy'
   ·rename_i e;exact⟨.ab v0 (AbH (H us 0)),by simp only[η2,e.1,if_true],by rw[e.2];exact Nat.le_refl _⟩
   ·cases hy'
  ·obtain⟨a1,a2,a3⟩:=hp2.fz j hj;exact⟨a1,a2,fun i ⟨_,k,h⟩=>a3 k h⟩
  ·obtain⟨_,k,h⟩:=hj;exact hp2.lt k j h
 have hvs2:D.ah c2 (.yl b0 v0 :: fl.map F.toD) (.func (.yield g) #[] #[] :: vs1):=by
  unfold D.ah;exact⟨_,vs1,rfl,by unfold D.rep;exact⟨g,hat2,rfl⟩,Lz (c:=c) (c1:=c2) rfl rfl hfl⟩
 have hΓ2:GOk Γ c2:=hΓ.ext (Ext.refl _ _);obtain⟨hcf,hcall⟩:=(hit (fun i=>AbH (H us i)) (fun i hi η b v h=>hy us i hi η b v h) η2 b0 v0 (by simp[η2])).go η2 (fun _ _=>rfl) ⟨w,fun j=>∃b∈m0.map (·.1),O b j,c2⟩ c2 O2 w _ hΓ2 hp3 ⟨rfl,rfl,rfl,Nat.le_refl _,fun _ _ _=>rfl,fun i j h=>.inl (hO j h.2),fun g hg=>.inl hg,Ext.refl _ _⟩ hvs2;refine⟨hcf,hcall.mono ?_⟩
 rintro e' w' ⟨v,rfl,d',rd',e2,c',O',⟨rfl,rfl,rfl⟩,k2,k3,k4,k5⟩
 refine⟨v,rfl,?_⟩;obtain⟨g2,a1,a2⟩:=k4.pc b0 (.ab v0 (AbH (H us n))) bj;obtain⟨c3,O3,z3,r3,p3,hsub,_⟩:=AbH.out k4 a2;have p4:=Go.Km.Hp.noS p3;rw[hHn] at p4;refine uT hs rfl he hη' hp hold hus p4 ⟨k5.os,k5.tape,k5.output,k5.size,k5.b4,fun i j h=>k5.own b0 j (hsub i j h),fun j hj=>k5.mW j (by rw[←z3];exact hj),by rw[z3,r3];exact k5.le⟩ ?_;unfold D.rep at k3 ⊢;obtain⟨vs2,b1,b2⟩:=k3;refine⟨vs2,b1,?_⟩;unfold D.ah at b2 ⊢;exact b2
theorem E8 {P:Program} {X:Tx} (hX:j5 P X) {f:FuncId} {fi:Fi} (hf:X.fi f=some fi) {fl:List F} {n:Nat} {ps:Nat→List D} (hN:Nat.ble (fl.length+1) fi.N=true)
  (hrun:∀A:Nat→Ab,(∀i,i<n→∀(η:Env) b v,η b=some (.ab v (A i))→wg P X.Γ η b v (ps i) (Bo true) [b] [(b,.ab v (A (i+1)))])→∀vs,
   Sn P X f (⟨.tp [],[(0,.ab 0 (A n)),(1,.gh 0 vs (.yl 0 0 :: fl.map F.toD))]⟩:sf) ⟨⟨f,fi.N,mD 0 (.yl 0 0 :: fl.map F.toD),[.code fi.body],[],none⟩,[],[(1,.gh 0 vs (.yl 0 0 :: fl.map F.toD)),(0,.ab 0 (A 0))],2⟩):Co P X.Γ f (fl.map F.toD) n ps:=by
 intro A hA η b v hb;have hl:aN [(b,v)] (.yl b v :: fl.map F.toD)=some (.yl 0 0 :: fl.map F.toD):=by
  simp only[aN,bu,cj,Nat.beq_refl,cond_true,eH]
 refine s3 hX hf (x:=[]) (x0:=[]) (l:=.yl b v :: fl.map F.toD) (l0:=.yl 0 0 :: fl.map F.toD) (m0:=[(b,v)]) (μ:=[(b,v)]) (hb:=[(b,.ab v (A 0))]) (h0:=[(0,.ab 0 (A 0))]) (d':=.tp []) (ds':=.yl 0 0 :: fl.map F.toD) (h'':=[(0,.ab 0 (A n))])
  (by simp[b8]) ?_ ⟨by simp[b8],?_,?_,?_,?_,?_⟩ (by simp only[dq,lk,Nat.beq_refl,cond_true,B.ver,eI]) hl (by simp only[aN]) (fun _ _ _ _ _ _=>⟨[],by unfold D.ah;rfl⟩) (by simpa using hN) (by simp only[bu,aN]) (by simp only[dq,lk,Nat.beq_refl,cond_true,B.ver,eI]) ?_
 ·intro b' x hx;simp only[lk] at hx
  cases e:Nat.beq b b' with
  | true=>rw[e] at hx;cases hx;have:=Nat.eq_of_beq_eq_true e;subst this;exact⟨hb,by simp⟩
  | false=>rw[e] at hx;cases hx
 ·intro b' hb';simp only[List.map_cons,List.map_nil,List.mem_singleton] at hb';subst hb';exact⟨.ab v (A n),by simp only[lk,Nat.beq_refl,cond_true]⟩
 ·intro b' x hx;simp only[lk] at hx
  cases e:Nat.beq b b' with
  | true=>have:=Nat.eq_of_beq_eq_true e;subst this;simp
  | false=>rw[e] at hx;cases hx
 ·intro b' x hx;simp only[lk] at hx
  cases e:Nat.beq b b' with
  | true=>rw[e] at hx;cases hx;have:=Nat.eq_of_beq_eq_true e;subst this;exact⟨rfl,.inl ⟨0,rfl⟩⟩
  | false=>rw[e] at hx;cases hx
 ·intro b' x y hx hy;simp only[lk] at hx
  cases e:Nat.beq b b' with
  | true=>rw[e] at hx;cases hx;have:=Nat.eq_of_beq_eq_true e;subst this;rw[hb] at hy;cases hy;exact Nat.le_refl _
  | false=>rw[e] at hx;cases hx
 ·intro i b' v' hi
  cases i with
  | zero=>
   simp at hi;obtain⟨rfl,rfl⟩:=hi;exact .inr (.inr (.inr ⟨0,by simp,by simp⟩))
  | succ i=>simp at hi
 ·intro vs;simpa using hrun A hA vs
theorem M3{c:Cf}{O:Nat→Nat→Prop}{η:Env}{w:World}{b v:Nat}{a:Ab}(hp:Hp c O η w)(h:η b=some (.ab v a)):∃u,D.rep c (.yl b v) u:=by
 obtain⟨g,h1,_⟩:=hp.pc b _ h;exact⟨_,by unfold D.rep;exact⟨g,h1,rfl⟩⟩
theorem Mt{c:Cf}{O:Nat→Nat→Prop}{η:Env}{w:World}{b v:Nat}{L:Vc.Lp}(hp:Hp c O η w)(h:η b=some (.lp v L)):∃u,D.rep c (.ptr L.db L.dv 0) u:=by
 obtain⟨g,L',gd,h1,h2,h3,h4,h5,h6,h7,h8,h9,h10,h11,h12⟩:=hp.pc b _ h;exact⟨_,by unfold D.rep;exact⟨gd,h11,rfl⟩⟩
def jv(η:Env):List Nat→List (Nat×B)
 | []=>[]
 | b :: l=>match η b with
  | some x=>(b,x) :: jv η l
  | none=>jv η l
def kE(e:List (Nat×B)):Rn:=e.map fun p=>(p.1,p.2.ver)
theorem lI{η:Env}:∀{l:List Nat} {b:Nat} {y:B},lk (jv η l) b=some y→η b=some y∧b∈l
 | [],b,y,h=>by cases h
 | a :: l,b,y,h=>by
  simp only[jv] at h
  split at h
  ·rename_i x hx;simp only[lk] at h
   cases e:Nat.beq a b with
   | true=>
    rw[e] at h
    cases h;have:=Nat.eq_of_beq_eq_true e;subst this;exact⟨hx,by simp⟩
   | false=>
    rw[e] at h;exact⟨(lI h).1,List.mem_cons_of_mem _ (lI h).2⟩
  ·exact⟨(lI h).1,List.mem_cons_of_mem _ (lI h).2⟩
theorem r9{α:Type}:∀{e:List (Nat×α)} {b:Nat} {x:α},lk e b=some x→(b,x)∈e
 | [],b,x,h=>by cases h
 | (a,y) :: e,b,x,h=>by
  simp only[lk] at h
  cases q:Nat.beq a b with
  | true=>
   rw[q] at h
   cases h;rw[Nat.eq_of_beq_eq_true q];simp
  | false=>
   rw[q] at h;exact List.mem_cons_of_mem _ (r9 h)
theorem vY{α:Type}:∀{e:List (Nat×α)} {b:Nat},b∈e.map (·.1)→∃x,lk e b=some x
 | [],b,h=>by cases h
 | (a,y) :: e,b,h=>by
  simp only[lk]
  cases q:Nat.beq a b with
  | true=>exact⟨y,rfl⟩
  | false=>
   simp only[List.map_cons,List.mem_cons] at h;rcases h with rfl|h
   ·rw[Nat.beq_refl] at q;cases q
   ·exact vY h
def Kg:B→Bool
 | .lp _ l=>l.s.isEmpty
 | .gh _ _ _=>false
 | _=>true
def HW(i b v:Nat):List D→List D→Bool
 | d :: l,d' :: l'=>(match d,d' with
  | .ptr b1 v1 o,.ptr i1 0 o'=>Nat.beq b1 b&&Nat.beq v1 v&&Nat.beq i1 i&&Nat.beq o o'
  | .own b1 v1,.own i1 0=>Nat.beq b1 b&&Nat.beq v1 v&&Nat.beq i1 i
  | .yl b1 v1,.yl i1 0=>Nat.beq b1 b&&Nat.beq v1 v&&Nat.beq i1 i
  | _,_=>false)||HW i b v l l'
 | _,_=>false
theorem Cr{i b v:Nat}:∀{l l':List D},HW i b v l l'=true→(∃j o:Nat,l[j]?=some (.ptr b v o)∧l'[j]?=some (.ptr i 0 o))∨(∃j:Nat,l[j]?=some (.own b v)∧l'[j]?=some (.own i 0))∨∃j:Nat,l[j]?=some (.yl b v)∧l'[j]?=some (.yl i 0)
 | [],_,h=>by cases h
 | d :: l,[],h=>by cases h
 | d :: l,d' :: l',h=>by
  simp only[HW,Bool.or_eq_true] at h;rcases h with h|h
  ·split at h
   ·simp only[Bool.and_eq_true] at h;obtain⟨⟨⟨h1,h2⟩,h3⟩,h4⟩:=h;rw[Nat.eq_of_beq_eq_true h1,Nat.eq_of_beq_eq_true h2,Nat.eq_of_beq_eq_true h3,Nat.eq_of_beq_eq_true h4];exact .inl ⟨0,_,rfl,rfl⟩
   ·simp only[Bool.and_eq_true] at h;obtain⟨⟨h1,h2⟩,h3⟩:=h;rw[Nat.eq_of_beq_eq_true h1,Nat.eq_of_beq_eq_true h2,Nat.eq_of_beq_eq_true h3];exact .inr (.inl ⟨0,rfl,rfl⟩)
   ·simp only[Bool.and_eq_true] at h;obtain⟨⟨h1,h2⟩,h3⟩:=h;rw[Nat.eq_of_beq_eq_true h1,Nat.eq_of_beq_eq_true h2,Nat.eq_of_beq_eq_true h3];exact .inr (.inr ⟨0,rfl,rfl⟩)
   ·cases h
  ·rcases Cr h with ⟨j,o,h1,h2⟩|⟨j,h1,h2⟩|⟨j,h1,h2⟩
   ·exact .inl ⟨j+1,o,by simpa using h1,by simpa using h2⟩
   ·exact .inr (.inl ⟨j+1,by simpa using h1,by simpa using h2⟩)
   ·exact .inr (.inr ⟨j+1,by simpa using h1,by simpa using h2⟩)
def CC(η:Env)(l ds':List D):Nat→Rn→Bool
 | _,[]=>true
 | i,(b,v) :: μ=>(Nat.beq v (nv η b)||HW i b v l ds')&&CC η l ds' (i+1) μ
theorem yY{η:Env}{l ds':List D}:∀{μ:Rn} {k i b v:Nat},CC η l ds' k μ=true→μ[i]?=some (b,v)→v=nv η b∨HW (k+i) b v l ds'=true
 | [],k,i,b,v,h,hi=>by simp at hi
 | (b1,v1) :: μ,k,i,b,v,h,hi=>by
  simp only[CC,Bool.and_eq_true,Bool.or_eq_true] at h
  cases i with
  | zero=>
   simp at hi;obtain⟨rfl,rfl⟩:=hi;exact h.1.imp Nat.eq_of_beq_eq_true id
  | succ i=>
   have:=yY h.2 (by simpa using hi)
   rwa [show k+1+i=k+(i+1) by omega] at this
def I1(η:Env):List (Nat×B)→Bool
 | []=>true
 | (b,x) :: e=>(match η b with
  | some y=>Nat.ble y.ver x.ver
  | none=>true)&&I1 η e
theorem Dl{η:Env}:∀{e:List (Nat×B)} {b:Nat} {x y:B},I1 η e=true→(b,x)∈e→η b=some y→y.ver≤x.ver
 | (b1,x1) :: e,b,x,y,h,hm,hy=>by
  simp only[I1,Bool.and_eq_true] at h;rcases List.mem_cons.1 hm with e1|hm
  ·cases e1;rw[hy] at h;exact Nat.le_of_ble_eq_true h.1
  ·exact Dl h.2 hm hy
def GQ(η:Env)(l:List D)(e:List (Nat×B))(ds':List D):Bool:=b8 (kE e)&&e.all (fun p=>Kg p.2)&&I1 η e&&CC η l ds' 0 (kE e)
theorem FN{η:Env}{l:List D}{e:List (Nat×B)}{ds':List D}{bs:List Nat}(hbs:bs=e.map (·.1))(h:GQ η l e ds'=true):zb η l bs (kE e) ds' (e.map (·.1)) e:=by
 simp only[GQ,Bool.and_eq_true,List.all_eq_true] at h;obtain⟨⟨⟨h1,h2⟩,h3⟩,h4⟩:=h;subst hbs;refine⟨h1,fun b hb=>vY hb,fun b x hx=>List.mem_map.2 ⟨_,r9 hx,rfl⟩,fun b x hx=>⟨?_,.inl ?_⟩,fun b x y hx hy=>Dl h3 (r9 hx) hy,fun i b v hi=>?_⟩
 ·have:=h2 _ (r9 hx)
  revert this
  cases x<;>simp[Kg]
 ·obtain⟨i,hi⟩:=List.mem_iff_getElem?.1 (r9 hx);exact⟨i,by simp[kE,hi]⟩
 ·rcases yY h4 hi with h|h
  ·exact .inl h
  ·rw[Nat.zero_add] at h;exact .inr (Cr h)
def sh(η:Env):D→Bool
 | .ptr b v 0=>(match η b with
  | some (.va v' _ _)=>Nat.beq v v'
  | _=>false)
 | .yl b v=>(match η b with
  | some (.ab v' _)=>Nat.beq v v'
  | _=>false)
 | _=>false
theorem H6{η:Env}{c:Cf}{O:Nat→Nat→Prop}{w:World}(hp:Hp c O η w):∀{d:D},sh η d=true→∃u,D.rep c d u:=by
 intro d h;unfold sh at h
 split at h
 ·split at h
  ·rename_i hb;have:=Nat.eq_of_beq_eq_true h;subst this;obtain⟨g,vs,h1,_⟩:=hp.pc _ _ hb;exact⟨_,by unfold D.rep;exact⟨g,h1,rfl⟩⟩
  ·cases h
 ·split at h
  ·rename_i hb;have:=Nat.eq_of_beq_eq_true h;subst this;exact M3 hp hb
  ·cases h
 ·cases h
theorem uF{η:Env}{c:Cf}{O:Nat→Nat→Prop}{w:World}(hp:Hp c O η w):∀{l:List D},l.all (sh η)=true→∃us,D.ah c l us
 | [],_=>⟨[],by unfold D.ah;rfl⟩
 | d :: l,h=>by
  simp only[List.all_cons,Bool.and_eq_true] at h;obtain⟨u,hu⟩:=H6 hp h.1;obtain⟨us,hus⟩:=uF hp h.2;exact⟨u :: us,by unfold D.ah;exact⟨_,_,rfl,hu,hus⟩⟩
def zV:D→Nat
 | .ptr b _ _=>b
 | .yl b _=>b
 | _=>0
theorem yN{η η':Env}{d:D}(h:η' (zV d)=η (zV d))(hd:sh η d=true):sh η' d=true:=by
 unfold sh at hd ⊢
 split at hd
 ·simp only[zV] at h;simp only[h];exact hd
 ·simp only[zV] at h;simp only[h];exact hd
 ·cases hd
theorem vb {P:Program} {X:Tx} {f:FuncId} {fl:List F} {n:Nat} {fs:Nat→List F} (hit:Co P X.Γ f (fl.map F.toD) n (fun i=>(fs i).map D.fr)) {η:Env} {b0 v0 m nx:Nat} {L Lc:Vc.Lp} {x x0:List D} {kc bs:List Nat} {e:List (Nat×B)} {T:Nat→List (Nat×B)}
  (h0:η b0=some (.lp v0 L)) (hbs:e.map (·.1)=bs) (hb0:(kE (jv η (b0 :: bs)))[0]?=some (b0,v0)) (hbb:(jv η (b0 :: bs)).map (·.1)=b0 :: bs)
  (hm:(kE (jv η (b0 :: bs))).length=m) (ho:b8 (kE (jv η (b0 :: bs)))=true)
  (hm0:dq (kE (jv η (b0 :: bs))) kc (jv η (b0 :: bs)) (kE (jv η (b0 :: bs))) 0=some ((0,.lp 0 Lc) :: T 0))
  (hx:aN (kE (jv η (b0 :: bs))) (.ptr L.db L.dv 0 :: x)=some x0) (hxh:(x.all fun d=>sh η d&&bs.elem (zV d))=true)
  (hbk:GQ η (.yl b0 v0 :: .ptr L.db L.dv 0 :: x) ((b0,.lp v0 { L with s:=[] }) :: e) (.yl 0 0 :: x0)=true)
  (he:dq (kE ((b0,.lp v0 { L with s:=[] }) :: e)) [] ((b0,.lp v0 { L with s:=[] }) :: e) (kE ((b0,.lp v0 { L with s:=[] }) :: e)) 0=some ((0,.lp 0 { Lc with s:=[] }) :: noS (T n)))
  (hlen:∀i,i<n→Nat.beq (fs i).length Lc.ps.length=true) (hps:(Lc.ps.all fun p=>Nat.blt p Lc.N)=true) (hgT:∀i vs,lk ((0,.lp 0 Lc) :: (T i++[(m,.gh 0 vs (.yl 0 0 :: x0))])) m=some (.gh 0 vs (.yl 0 0 :: x0)))
  (hround:∀vs i,i<n→Sn P X Lc.f (⟨true,kc,(0,.lp 0 Lc) :: (T (i+1)++[(m,.gh 0 vs (.yl 0 0 :: x0))])⟩:F8) ⟨⟨Lc.f,Lc.N,z9 Lc.ps ((fs i).map D.fr) Lc.s,[.code Lc.asg,.br,.code Lc.body],[],some (0,0)⟩,[],(0,.lp 0 Lc) :: (T i++[(m,.gh 0 vs (.yl 0 0 :: x0))]),nx⟩) :
  dp P X.Γ η f (.yl b0 v0 :: fl.map F.toD) (.tp []) (b0 :: bs) ((b0,.lp v0 { L with s:=[] }) :: e):=by
 have hbs':(kE (jv η (b0 :: bs))).map (·.1)=((b0,B.lp v0 { L with s:=[] }) :: e).map (·.1):=by
  have:∀e:List (Nat×B),(kE e).map (·.1)=e.map (·.1):=fun e=>by simp[kE,Function.comp_def]
  rw[this,hbb,List.map_cons,hbs]
 have hback:=FN hbs' hbk;rw[List.map_cons,hbs] at hback;have hme:(kE ((b0,B.lp v0 { L with s:=[] }) :: e)).length=m:=by
  rw[←hm];have:=congrArg List.length hbs';simpa [kE] using this.symm
 refine Ax hit (H:=fun vs i=>(0,.lp 0 Lc) :: (T i++[(m,.gh 0 vs (.yl 0 0 :: x0))])) (fun vs i hi η b v hb=>DM (n:=m) (n':=m) (ds:=x0) (ds':=x0) rfl (hlen i hi) hps (hgT i vs) (hgT (i+1) vs) (hround vs i hi) hb) hback ho (fun b y hy=>lI hy) hb0 hm0 hx ?_ he (fun vs=>by rw[hm];rfl) (fun vs=>by rw[hme];simp[noS]);intro η' c O w hη hp;obtain⟨u1,q1⟩:=Mt hp ((hη b0 (by simp)).trans h0);obtain⟨us,q2⟩:=uF (l:=x) hp (by
  rw[List.all_eq_true] at hxh ⊢;intro d hd;have:=hxh d hd;rw[Bool.and_eq_true] at this;exact yN (hη _ (List.mem_cons_of_mem _ (by simpa using this.2))) this.1)
 exact⟨u1 :: us,by unfold D.ah;exact⟨_,_,rfl,q1,q2⟩⟩
theorem AY{c:Cf}{O:Nat→Nat→Prop}{η:Env}{w:World}{b v t:Nat}{cs:List D}(hp:Hp c O η w)(h:η b=some (.va v t cs)):∃u,D.rep c (.ptr b v 0) u:=by
 obtain⟨g,vs,h1,_⟩:=hp.pc b _ h;exact⟨_,by unfold D.rep;exact⟨g,h1,rfl⟩⟩
theorem HY {P:Program} {X:Tx} (hX:j5 P X) {f cl:FuncId} {fi:Fi} (hf:X.fi f=some fi) {t0 t1 t2:Nat} {l:List F} {g ii:F} {S S':List F} (hN:Nat.ble (l.length+1) fi.N=true)
  (hrun:∀vs,Sn P X f (⟨.tp [],[(0,.va 0 t0 [.fr g]),(1,.va 0 t1 (S'.map .fr)),(2,.va 0 t2 [.fr ii]),(3,.gh 0 vs ((l.map F.toD++[.cl cl [.ptr 0 0 0,.ptr 1 0 0,.ptr 2 0 0]])++[.ptr 0 0 0,.ptr 1 0 0,.ptr 2 0 0]))]⟩:sf)
   ⟨⟨f,fi.N,mD 0 (l.map F.toD++[.cl cl [.ptr 0 0 0,.ptr 1 0 0,.ptr 2 0 0]]),[.code fi.body],[],none⟩,[],[(3,.gh 0 vs ((l.map F.toD++[.cl cl [.ptr 0 0 0,.ptr 1 0 0,.ptr 2 0 0]])++[.ptr 0 0 0,.ptr 1 0 0,.ptr 2 0 0])),(0,.va 0 t0 [.fr g]),(1,.va 0 t1 (S.map .fr)),(2,.va 0 t2 [.fr ii])],4⟩)
  {η:Env} {b0 v0 b1 v1 b2 v2:Nat} (h0:η b0=some (.va v0 t0 [.fr g])) (h1:η b1=some (.va v1 t1 (S.map .fr))) (h2:η b2=some (.va v2 t2 [.fr ii])) (n01:Nat.beq b0 b1=false) (n02:Nat.beq b0 b2=false) (n12:Nat.beq b1 b2=false) :
  dp P X.Γ η f (l.map F.toD++[.cl cl [.ptr b0 v0 0,.ptr b1 v1 0,.ptr b2 v2 0]]) (.tp []) [b0,b1,b2] [(b0,.va v0 t0 [.fr g]),(b1,.va v1 t1 (S'.map .fr)),(b2,.va v2 t2 [.fr ii])]:=by
 have sym:∀{a b:Nat},Nat.beq a b=false→Nat.beq b a=false:=fun {a b} h=>by rw[←Bool.not_eq_true];intro e;rw[Nat.eq_of_beq_eq_true e,Nat.beq_refl] at h;cases h
 have m01:=sym n01;have m02:=sym n02;have m12:=sym n12;have hlk:∀{x y z:B} {i:Nat} {u:B},lk [(b0,x),(b1,y),(b2,z)] i=some u→(i=b0∧u=x)∨(i=b1∧u=y)∨(i=b2∧u=z):=by
  intro x y z i u h;simp only[lk] at h
  cases e1:Nat.beq b0 i with
  | true=>rw[e1] at h;cases h;exact .inl ⟨(Nat.eq_of_beq_eq_true e1).symm,rfl⟩
  | false=>
   rw[e1] at h
   cases e2:Nat.beq b1 i with
   | true=>rw[e2] at h;cases h;exact .inr (.inl ⟨(Nat.eq_of_beq_eq_true e2).symm,rfl⟩)
   | false=>
    rw[e2] at h
    cases e3:Nat.beq b2 i with
    | true=>rw[e3] at h;cases h;exact .inr (.inr ⟨(Nat.eq_of_beq_eq_true e3).symm,rfl⟩)
    | false=>rw[e3] at h;cases h
 have l0:∀{x y z:B},lk [(b0,x),(b1,y),(b2,z)] b0=some x:=by intro x y z;simp[lk]
 have l1:∀{x y z:B},lk [(b0,x),(b1,y),(b2,z)] b1=some y:=by intro x y z;simp[lk,n01]
 have l2:∀{x y z:B},lk [(b0,x),(b1,y),(b2,z)] b2=some z:=by intro x y z;simp[lk,n02,n12]
 have ho:b8 [(b0,v0),(b1,v1),(b2,v2)]=true:=by simp[b8,m01,m02,m12]
 have p0:cj [(b0,v0),(b1,v1),(b2,v2)] b0 v0 0=some 0:=by simp[cj]
 have p1:cj [(b0,v0),(b1,v1),(b2,v2)] b1 v1 0=some 1:=by simp[cj,m01]
 have p2:cj [(b0,v0),(b1,v1),(b2,v2)] b2 v2 0=some 2:=by simp[cj,m02,m12]
 have hren:∀(Y:List F),dq [(b0,v0),(b1,v1),(b2,v2)] [] [(b0,.va v0 t0 [.fr g]),(b1,.va v1 t1 (Y.map .fr)),(b2,.va v2 t2 [.fr ii])] [(b0,v0),(b1,v1),(b2,v2)] 0=some [(0,.va 0 t0 [.fr g]),(1,.va 0 t1 (Y.map .fr)),(2,.va 0 t2 [.fr ii])]:=fun Y=>by
  simp only[dq,l0,l1,l2,B.ver,Nat.beq_refl,cond_true,eI,aN,bu,lH]
 have hrd:aN [(b0,v0),(b1,v1),(b2,v2)] [.cl cl [.ptr b0 v0 0,.ptr b1 v1 0,.ptr b2 v2 0]]=some [.cl cl [.ptr 0 0 0,.ptr 1 0 0,.ptr 2 0 0]]:=by
  simp only[aN,bu,p0,p1,p2]
 have hra:∀(a b a' b':List D),aN [(b0,v0),(b1,v1),(b2,v2)] a=some a'→aN [(b0,v0),(b1,v1),(b2,v2)] b=some b'→aN [(b0,v0),(b1,v1),(b2,v2)] (a++b)=some (a'++b'):=by
  intro a
  induction a with
  | nil=>intro b a' b' ha hb;simp only[aN] at ha;cases ha;exact hb
  | cons d a ih=>
   intro b a' b' ha hb;simp only[aN] at ha
   split at ha
   ·rename_i d' l' hd hl
    cases ha;simp only[List.cons_append,aN,hd,ih b _ _ hl hb]
   ·cases ha
 refine jw hX hf (x:=[D.ptr b0 v0 0,D.ptr b1 v1 0,D.ptr b2 v2 0]) (x0:=[D.ptr 0 0 0,D.ptr 1 0 0,D.ptr 2 0 0]) (l:=l.map F.toD++[D.cl cl [D.ptr b0 v0 0,D.ptr b1 v1 0,D.ptr b2 v2 0]]) (l0:=l.map F.toD++[D.cl cl [D.ptr 0 0 0,D.ptr 1 0 0,D.ptr 2 0 0]])
  (m0:=[(b0,v0),(b1,v1),(b2,v2)]) (μ:=[(b0,v0),(b1,v1),(b2,v2)]) (hb:=[(b0,.va v0 t0 [.fr g]),(b1,.va v1 t1 (S.map .fr)),(b2,.va v2 t2 [.fr ii])]) (h0:=[(0,.va 0 t0 [.fr g]),(1,.va 0 t1 (S.map .fr)),(2,.va 0 t2 [.fr ii])]) (d:=D.tp []) (d':=D.tp [])
  (ds':=(l.map F.toD++[D.cl cl [D.ptr 0 0 0,D.ptr 1 0 0,D.ptr 2 0 0]])++[D.ptr 0 0 0,D.ptr 1 0 0,D.ptr 2 0 0]) (h'':=[(0,.va 0 t0 [.fr g]),(1,.va 0 t1 (S'.map .fr)),(2,.va 0 t2 [.fr ii])])
  ⟨ho,ho,?_,?_,?_,?_,?_,?_⟩ (hren S) ?_ ?_ ?_ ?_ ?_ (hren S') hrun
 ·intro i x h;rcases hlk h with ⟨rfl,rfl⟩|⟨rfl,rfl⟩|⟨rfl,rfl⟩
  ·exact⟨h0,by simp⟩
  ·exact⟨h1,by simp⟩
  ·exact⟨h2,by simp⟩
 ·intro i u h;simp only[List.mem_cons,List.not_mem_nil,or_false,Prod.mk.injEq] at h;rcases h with ⟨rfl,rfl⟩|⟨rfl,rfl⟩|⟨rfl,rfl⟩
  ·exact⟨_,l0⟩
  ·exact⟨_,l1⟩
  ·exact⟨_,l2⟩
 ·intro i x h;rcases hlk h with ⟨rfl,rfl⟩|⟨rfl,rfl⟩|⟨rfl,rfl⟩<;>simp
 ·intro i x h;rcases hlk h with ⟨rfl,rfl⟩|⟨rfl,rfl⟩|⟨rfl,rfl⟩
  ·exact⟨rfl,.inl ⟨0,rfl⟩⟩
  ·exact⟨rfl,.inl ⟨1,rfl⟩⟩
  ·exact⟨rfl,.inl ⟨2,rfl⟩⟩
 ·intro i x y h hy;rcases hlk h with ⟨rfl,rfl⟩|⟨rfl,rfl⟩|⟨rfl,rfl⟩
  ·rw[h0] at hy;cases hy;exact Nat.le_refl _
  ·rw[h1] at hy;cases hy;exact Nat.le_refl _
  ·rw[h2] at hy;cases hy;exact Nat.le_refl _
 ·intro i j u h;have hl:∀(a:List D) (n:Nat) (x0 x1 x2:D),a.length=n→(a++[x0,x1,x2])[n]?=some x0∧(a++[x0,x1,x2])[n+1]?=some x1∧(a++[x0,x1,x2])[n+2]?=some x2:=by
   intro a n x0 x1 x2 e;subst e;refine⟨?_,?_,?_⟩
   ·rw[List.getElem?_append_right (by omega),Nat.sub_self];rfl
   ·rw[List.getElem?_append_right (by omega),Nat.add_sub_cancel_left];rfl
   ·rw[List.getElem?_append_right (by omega),Nat.add_sub_cancel_left];rfl
  match i,h with
  | 0,h=>cases h;exact .inr (.inl ⟨l.length+1,0,(hl _ _ _ _ _ (by simp)).1,(hl _ _ _ _ _ (by simp)).1⟩)
  | 1,h=>cases h;exact .inr (.inl ⟨l.length+1+1,0,(hl _ _ _ _ _ (by simp)).2.1,(hl _ _ _ _ _ (by simp)).2.1⟩)
  | 2,h=>cases h;exact .inr (.inl ⟨l.length+1+2,0,(hl _ _ _ _ _ (by simp)).2.2,(hl _ _ _ _ _ (by simp)).2.2⟩)
 ·exact hra _ _ _ _ (eH _ l) hrd
 ·simp only[aN,bu,p0,p1,p2]
 ·intro η' c O w hη hpw;obtain⟨u0,q0⟩:=AY hpw ((hη b0 (by simp)).trans h0);obtain⟨u1,q1⟩:=AY hpw ((hη b1 (by simp)).trans h1);obtain⟨u2,q2⟩:=AY hpw ((hη b2 (by simp)).trans h2);exact⟨[u0,u1,u2],by unfold D.ah;exact⟨_,_,rfl,q0,by unfold D.ah;exact⟨_,_,rfl,q1,by unfold D.ah;exact⟨_,_,rfl,q2,by unfold D.ah;rfl⟩⟩⟩⟩
 ·simpa using hN
 ·simp only[bu,aN]
end Go.Km
end
section
namespace Go.Km
open Go Go.Vc Go.Proofs Go.aa Go.Proofs.YtoklkjkmbfebjaaGreatDoor
set_option maxRecDepth 100000
set_option maxHeartbeats 0
abbrev LQ(n:Int)(W:Nat→Int)(l:Int):List D:=[.fr (inF n),.fr (.vl (.int .u64 (W 0))),.fr (.vl (.int .u64 (W 1))),.fr (.vl (.int .u64 (W 2))),.fr (.vl (.int .u64 (W 3))),.fr (.vl (.int .u64 (W 4))),.fr (.vl (.int .u64 (W 5))),.fr (.vl (.int .u64 (W 6))),.fr (.vl (.int .u64 (W 7))),.fr (.vl (.int .u64 (W 8))),.fr (.vl (.int .u64 (W 9))),.fr (.vl (.int .u64 (W 10))),.fr (.vl (.int .u64 (W 11))),.fr (.vl (.int .u64 (W 12))),.fr (.vl (.int .u64 (W 13))),.fr (.vl (.int .u64 (W 14))),.fr (.vl (.int .u64 (W 15))),.fr (.vl (.int .u64 (W 16))),.fr (.vl (.int .u64 (W 17))),.fr (.vl (.int .u64 (W 18))),.fr (.vl (.int .u64 (W 19))),.fr (.vl (.int .u64 (W 20))),.fr (.vl (.int .u64 (W 21))),.fr (.vl (.int .u64 (W 22))),.fr (.vl (.int .u64 (W 23))),.fr (.vl (.int .u64 (W 24))),.fr (.vl (.int .u64 (W 25))),.fr (.vl (.int .u64 (W 26))),.fr (.vl (.int .u64 (W 27))),.fr (.vl (.int .u64 (W 28))),.fr (.vl (.int .u64 (W 29))),.fr (.vl (.int .u64 (W 30))),.fr (.vl (.int .u64 (W 31))),.fr (.vl (.int .u64 (W 32))),.fr (.vl (.int .u64 (W 33))),.fr (.vl (.int .u64 (W 34))),.fr (.vl (.int .u64 (W 35))),.fr (.vl (.int .u64 (W 36))),.fr (.vl (.int .u64 (W 37))),.fr (.vl (.int .u64 (W 38))),.fr (.vl (.int .u64 (W 39))),.fr (.vl (.int .u64 (W 40))),.fr (.vl (.int .u64 (W 41))),.fr (.vl (.int .u64 (W 42))),.fr (.vl (.int .u64 (W 43))),.fr (.vl (.int .u64 (W 44))),.fr (.vl (.int .u64 (W 45))),.fr (.vl (.int .u64 (W 46))),.fr (.vl (.int .u64 (W 47))),.fr (.vl (.int .u64 (W 48))),.fr (.vl (.int .u64 (W 49))),.fr (.vl (.int .u64 (W 50))),.fr (.vl (.int .u64 (W 51))),.fr (.vl (.int .u64 (W 52))),.fr (.vl (.int .u64 (W 53))),.fr (.vl (.int .u64 (W 54))),.fr (.vl (.int .u64 (W 55))),.fr (.vl (.int .u64 (W 56))),.fr (.vl (.int .u64 (W 57))),.fr (.vl (.int .u64 (W 58))),.fr (.vl (.int .u64 (W 59))),.fr (.vl (.int .u64 (W 60))),.fr (.vl (.int .u64 (W 61))),.fr (.vl (.int .u64 (W 62))),.fr (.vl (.int .u64 (W 63))),.fr (.vl (.int .u64 l))]
theorem J2(n:Int)(W:Nat→Int)(l:Int){i e:Nat}(h:i<64)(he:e=i+1):(LQ n W l)[e]?=some (.fr (.vl (.int .u64 (W i)))):=by
 subst he;show(gp W++[.fr (.vl (.int .u64 l))])[i]?=_
 rw[List.getElem?_append_left (by simpa using h)];have:=mj W h;rw[Int.toNat_natCast,Nat.zero_add,Nat.mul_one] at this;exact this
theorem JI(n:Int)(W:Nat→Int)(l:Int){i e:Nat}(h:i<64)(he:e=i+1)(v:Int):setAt (LQ n W l) e [.fr (.vl (.int .u64 v))]=LQ n (eb W i v) l:=by
 subst he;rw[lW _ _ _ (by simp;omega)];have:=vh W h v;rw[Int.toNat_natCast,Nat.zero_add,Nat.mul_one,lW _ _ _ (by simpa using h)] at this;show D.fr (inF n) :: (gp W++[D.fr (.vl (.int .u64 l))]).set i (D.fr (.vl (.int .u64 v)))=D.fr (inF n) :: (gp (eb W i v)++[.fr (.vl (.int .u64 l))])
 rw[List.set_append_left _ _ (by simpa using h),this]
theorem l5{W:Nat→Int}{i:Nat}{v:Int}(h:W i=v):eb W i v=W:=by
 funext j
 unfold eb
 by_cases e:j=i
 ·subst e;rw[if_pos rfl,h]
 ·rw[if_neg e]
theorem vd(W:Nat→Int)(i:Nat)(u v:Int):eb (eb W i u) i v=eb W i v:=by
 funext j
 unfold eb
 by_cases e:j=i
 ·simp[e]
 ·simp[e]
theorem Cs(W:Nat→Int)(i:Nat)(v:Int):eb W i v i=v:=by simp[eb]
def gm(g:List Dfn)(p:Nat→Bool)(L:List ByteArray)(j:Nat):Bool:=p j||L.any fun s=>decide (bU g s=some j)
abbrev uz(g:List Dfn)(fl:List Fl)(ns:List Nod)(k:Int):List ByteArray:=(aE ns ns.length [k]).iC g fl false
abbrev clL(b0 v0 b1 v1 b2 v2:Nat):D:=.cl 69 [.ptr b0 v0 0,.ptr b1 v1 0,.ptr b2 v2 0]
theorem tU(g:List Dfn)(p:Nat→Bool):gm g p []=p:=by funext j;simp[gm]
theorem xE(g:List Dfn)(p:Nat→Bool)(L M:List ByteArray):gm g (gm g p L) M=gm g p (L++M):=by funext j;simp[gm,Bool.or_assoc]
theorem zz(g:List Dfn)(p:Nat→Bool)(s:ByteArray):gm g p [s]=fun j=>p j||decide (bU g s=some j):=by funext j;simp[gm]
theorem nG(g:List Dfn)(fl:List Fl){ns:List Nod}(hk:KOk ns)(s:Bool){x:Nat}(hx:x<ns.length)(ks:List Int):(aE ns ns.length ((x:Int) :: ks)).iC g fl s=uz g fl ns (x:Int)++(if (s && !((aP g fl ns).getD x .bot).zero)=true then [] else (aE ns ns.length ks).iC g fl s):=by
 have h1:=fJ (ns:=ns) hk.ae (k:=(x:Int)) (by omega) (by omega);have h2:=zu g fl hk x hx;rw[bc _ _ (by omega),uz,h2,h1];simp only[Fo.app,Fo.iC,Fo.iF,Bool.false_and,Bool.false_eq_true,if_false,List.append_nil];rfl
theorem IW(g:List Dfn)(fl:List Fl){ns:List Nod}(hk:KOk ns){x:Nat}(hx:x<ns.length):uz g fl ns (x:Int)=if ns[x].kind=3 then [ns[x].text] else if ns[x].kind=6∧ns[x].max=0 then [] else (aE ns ns.length ns[x].kids).iC g fl (decide (ns[x].kind=4)):=by
 have h1:=fJ (ns:=ns) hk.ae (k:=(x:Int)) (by omega) (by omega);have hd:dat ns (x:Int)={ ns[x] with kids:=[] }:=by simp[dat,List.getD_eq_getElem?_getD,hx]
 rw[uz,h1,←aI (List.getElem?_eq_getElem hx),hd];simp only[Fo.iC,Bool.false_and,Bool.false_eq_true,if_false,List.append_nil]
def Ki(g:List Dfn)(t:Tre)(fl X:List Fl)(i:Nat)(k:Nat):Prop:=∀(n lo:Int) (p:Nat→Bool) (W:Nat→Int),W i=wdI p→∀(η:Env) (b0 v0 b1 v1 b2 v2:Nat),η b0=some (.va v0 24 [.fr (.sl (g.map sN))])→η b1=some (.va v1 102 ((tM n W lo).map .fr))→η b2=some (.va v2 3 [.fr (inF (i:Int))])→Nat.beq b0 b1=false→Nat.beq b0 b2=false→Nat.beq b1 b2=false→
  dp Tryz.prog X1.Γ η 68 ([az t,mE X,inF (k:Int)].map F.toD++[clL b0 v0 b1 v1 b2 v2]) (.tp []) [b0,b1,b2] [(b0,.va v0 24 [.fr (.sl (g.map sN))]),(b1,.va v1 102 ((tM n (eb W i (wdI (gm g p (uz g fl t.nodes (k:Int))))) lo).map .fr)),(b2,.va v2 3 [.fr (inF (i:Int))])]
theorem HG{g:List Dfn}{t:Tre}{fl X:List Fl}{i:Nat}(hXX:X=aP g fl t.nodes)(hg:g.length≤64)(hw:t.wf)(hR:aC t)(hi:i<64):∀k:Nat,k<t.nodes.length→Ki g t fl X i k:=by
 intro k
 induction k using Nat.strongRecOn with
 | ind k ih=>
  intro hk n lo p W hW η b0 v0 b1 v1 b2 v2 h0 h1 h2 n01 n02 n12;have hX:=u4 [69] [68];refine HY hX rfl rfl (fun vs=>?_) h0 h1 h2 n01 n02 n12;clear h0 h1 h2 n01 n02 n12;have hlen:=hw.len;simp only[ca] at hlen;have hkk:=hR.kok;have hat:=IW g fl hkk hk;have hfit:=hR.fits k t.nodes[k] (List.getElem?_eq_getElem hk);have hko:=hkk k t.nodes[k] (List.getElem?_eq_getElem hk);obtain⟨kf1,kf2,kf3⟩:=l7 hfit;have hXl:X.length=t.nodes.length:=by rw[hXX,cM]
  have hkl:=(hw.nodes _ (List.getElem_mem hk)).kids.1;simp only[dS] at hkl;obtain⟨L,hL⟩:=exEq (uz g fl t.nodes (k:Int));rw[←hL] at hat ⊢
  by_cases k3:t.nodes[k].kind=3
  ·rw[if_pos k3] at hat;subst hat
   cases hf:bU g t.nodes[k].text with
   | none=>
    have hfn:o8 g t.nodes[k].text=-1:=by rw[o8,hf]
    have hS:eb W i (wdI (gm g p [t.nodes[k].text]))=W:=l5 (by rw[hW,zz];simp[hf]);rw[hS];apply Sn.go hX;repeat' first|exact k9|refine k2 ?_|apply kA|apply kI;intro hc|apply kL;intro hl|(apply Sn.go hX;conv=>whnf)|((simp only[hfn])<;>conv=>whnf)|refine k8 ?_|fail
    exact cQ.i rfl rfl
   | some j=>
    have hj:=(jU hf).1;have hfn:o8 g t.nodes[k].text=(j:Int):=by rw[o8,hf]
    have hv:IntKind.u64.wrap ((BitVec.ofInt IntKind.u64.bits (W i) ||| BitVec.ofInt IntKind.u64.bits (IntKind.u64.wrap (1 * 2 ^ (min ((j:Nat):Int).toNat IntKind.u64.bits)))).toNat:Int)=wdI (gm g p [t.nodes[k].text]):=by
     rw[hW,BX (by omega),CM,zz];refine lx fun b hb=>?_
     rw[hf]
     congr 1
     exact decide_eq_decide.2 ⟨fun e=>by rw[e],fun e=>by cases e;rfl⟩
    apply Sn.go hX;repeat' first|exact k9|refine k1 ?_|apply kA|apply kI;intro hc|apply kL;intro hl|((apply ExK.m;exact⟨J2 n W lo hi (by simp;omega)⟩)<;>conv=>whnf)|((apply FoA.m;exact⟨JI n W lo hi (by simp;omega) _⟩)<;>conv=>whnf)|refine k5 ?_|(apply Sn.go hX;conv=>whnf)|((simp only[hfn])<;>conv=>whnf)|refine k8 ?_|fail
    ·rw[hv];exact cQ.i rfl rfl
  rw[if_neg k3] at hat
  by_cases k6:t.nodes[k].kind=6
  ·have hk1:t.nodes[k].kids.length=1:=by have:=kf2 (by omega);omega
   obtain⟨q,hq⟩:∃q:Nat,t.nodes[k].kids=[(q:Int)]:=by
    obtain⟨x,hx1⟩:=List.length_eq_one_iff.1 hk1;refine⟨x.toNat,?_⟩;have:=hko x (by rw[hx1];simp);rw[hx1]
    congr 1
    omega
   have hql:=hko (q:Int) (by rw[hq];simp);have hq0:∀h:0<t.nodes[k].kids.length,t.nodes[k].kids[0]'h=(q:Int):=fun h=>by simp only[hq];rfl
   by_cases hm:t.nodes[k].max=0
   ·rw[if_pos ⟨k6,hm⟩] at hat;subst hat;have hS:eb W i (wdI (gm g p []))=W:=l5 (by rw[hW,tU]);rw[hS];apply Sn.go hX;repeat' first|exact k9|refine k2 ?_|apply kA|apply kI;intro hc|(apply Sn.go hX;conv=>whnf)|refine k8 ?_|apply kL;intro hl
    exact cQ.i rfl rfl
   ·rw[if_neg (fun h=>hm h.2),hq,nG g fl hkk _ (by omega),decide_eq_false (show ¬t.nodes[k].kind=4 by omega),ay] at hat;simp only[Bool.false_and,Bool.false_eq_true,if_false,Fo.iC,List.append_nil] at hat;rw[hat];apply Sn.go hX;repeat' first|exact k9|refine k2 ?_|apply kA|apply kI;intro hc|apply kL;intro hl|(apply Sn.go hX;conv=>whnf)|((simp only[hq0])<;>conv=>whnf)|((refine dR.i (ih q (by omega) (by omega) n lo p W hW _ _ _ _ _ _ _ rfl rfl rfl rfl rfl rfl) ?_)<;>conv=>whnf)|refine k8 ?_|fail
    exact cQ.i rfl rfl
  rw[if_neg (fun h=>k6 h.1)] at hat
  by_cases k4:t.nodes[k].kind=4
  ·rw[decide_eq_true k4] at hat;apply Sn.go hX;repeat' first|exact k9|refine k2 ?_|apply kA|apply kI;intro hc|(apply Sn.go hX;conv=>whnf)|refine k8 ?_|apply kL;intro hl
   have hS0:eb W i (wdI (gm g p []))=W:=l5 (by rw[hW,tU]);apply kCt [1,3,4,42,43,44] [];conv=>whnf
   refine Lp.ind (fun x:Nat×List ByteArray=>t.nodes[k].kids.length - x.1) (fun x=>x.1≤t.nodes[k].kids.length∧L=x.2++(aE t.nodes t.nodes.length (t.nodes[k].kids.drop x.1)).iC g fl true) (fun x=>[(44,InD x.1)]) (fun x=>[(1,.va 0 102 ((tM n (eb W i (wdI (gm g p x.2))) lo).map .fr))]) (fun _=>_) (0,[]) ⟨Nat.zero_le _,hat⟩ rfl rfl (by dsimp only;rw[hS0];rfl) ?_
   rintro G ⟨j,M⟩ ihl ⟨hj,hT⟩
   dsimp only at hj hT ihl ⊢;obtain⟨p2,hp2⟩:=exEq (gm g p M);obtain⟨W2,hW2⟩:=exEq (eb W i (wdI p2));have hW2i:W2 i=wdI p2:=by rw[hW2,Cs]
   have hnx:∀N,eb W2 i (wdI (gm g p2 N))=eb W i (wdI (gm g p (M++N))):=fun N=>by rw[hW2,vd,hp2,xE]
   rw[←hp2,←hW2]
   by_cases hy:j<t.nodes[k].kids.length
   ·obtain⟨q,hq⟩:∃q:Nat,t.nodes[k].kids[j]=q:=⟨t.nodes[k].kids[j].toNat,by have:=hko _ (List.getElem_mem hy);omega⟩
    have hqi:∀h:j<t.nodes[k].kids.length,t.nodes[k].kids[j]'h=(q:Int):=fun _=>hq
    have hql:=hko _ (List.getElem_mem hy);rw[hq] at hql;have hxq:∀h:q<X.length,X[q]'h=X.getD q .bot:=fun h=>by simp[List.getD_eq_getElem?_getD,h]
    rw[List.drop_eq_getElem_cons hy,hq,nG g fl hkk _ (by omega),←hXX] at hT;apply Sn.go hX;repeat' first|exact k9|refine k2 ?_|apply kA|apply kI;intro hc|apply kL;intro hl|(apply Sn.go hX;conv=>whnf)|((simp only[hqi])<;>conv=>whnf)|((refine dR.i (ih q (by omega) (by omega) n lo p2 W2 hW2i _ _ _ _ _ _ _ rfl rfl rfl rfl rfl rfl) ?_)<;>conv=>whnf)|refine k8 ?_|fail
    ·have hz:=hc;rw[hxq] at hz;rw[hz] at hT;simp only[Bool.not_true,Bool.and_false,Bool.false_eq_true,if_false] at hT;apply kCt [1,3,4,42,43,44] [];conv=>whnf
     exact ihl (j+1,M++uz g fl t.nodes (q:Int)) _ _ _ (by dsimp only;omega) ⟨by dsimp only;omega,by rw[hT,List.append_assoc]⟩ rfl rfl (congrArg (fun z=>iW [(1,B.va 0 102 ((tM n z lo).map .fr))] G.h) (hnx _))
    ·have hz:=hc;rw[hxq] at hz;rw[hz] at hT;simp only[Bool.not_false,Bool.and_true,if_true,List.append_nil] at hT;subst hT;rw[hnx];exact cQ.i rfl rfl
   ·obtain rfl:j=t.nodes[k].kids.length:=by omega
    rw[List.drop_length,ay,Fo.iC,List.append_nil] at hT;subst hT;rw[←hp2,←hW2];apply Sn.go hX;repeat' first|exact k9|refine k2 ?_|apply kA|apply kI;intro hc|(apply Sn.go hX;conv=>whnf)|refine k8 ?_|apply kL;intro hl
    exact cQ.i rfl rfl
  ·rw[decide_eq_false k4] at hat;apply Sn.go hX;repeat' first|exact k9|refine k2 ?_|apply kA|apply kI;intro hc|(apply Sn.go hX;conv=>whnf)|refine k8 ?_|apply kL;intro hl
   have hS0:eb W i (wdI (gm g p []))=W:=l5 (by rw[hW,tU]);apply kCt [1,3,4,21,22,23] [];conv=>whnf
   refine Lp.ind (fun x:Nat×List ByteArray=>t.nodes[k].kids.length - x.1) (fun x=>x.1≤t.nodes[k].kids.length∧L=x.2++(aE t.nodes t.nodes.length (t.nodes[k].kids.drop x.1)).iC g fl false) (fun x=>[(23,InD x.1)]) (fun x=>[(1,.va 0 102 ((tM n (eb W i (wdI (gm g p x.2))) lo).map .fr))]) (fun _=>_) (0,[]) ⟨Nat.zero_le _,hat⟩ rfl rfl (by dsimp only;rw[hS0];rfl) ?_
   rintro G ⟨j,M⟩ ihl ⟨hj,hT⟩
   dsimp only at hj hT ihl ⊢;obtain⟨p2,hp2⟩:=exEq (gm g p M);obtain⟨W2,hW2⟩:=exEq (eb W i (wdI p2));have hW2i:W2 i=wdI p2:=by rw[hW2,Cs]
   have hnx:∀N,eb W2 i (wdI (gm g p2 N))=eb W i (wdI (gm g p (M++N))):=fun N=>by rw[hW2,vd,hp2,xE]
   rw[←hp2,←hW2]
   by_cases hy:j<t.nodes[k].kids.length
   ·obtain⟨q,hq⟩:∃q:Nat,t.nodes[k].kids[j]=q:=⟨t.nodes[k].kids[j].toNat,by have:=hko _ (List.getElem_mem hy);omega⟩
    have hqi:∀h:j<t.nodes[k].kids.length,t.nodes[k].kids[j]'h=(q:Int):=fun _=>hq
    have hql:=hko _ (List.getElem_mem hy);rw[hq] at hql;have hxq:∀h:q<X.length,X[q]'h=X.getD q .bot:=fun h=>by simp[List.getD_eq_getElem?_getD,h]
    rw[List.drop_eq_getElem_cons hy,hq,nG g fl hkk _ (by omega),←hXX] at hT;apply Sn.go hX;repeat' first|exact k9|refine k2 ?_|apply kA|apply kI;intro hc|apply kL;intro hl|(apply Sn.go hX;conv=>whnf)|((simp only[hqi])<;>conv=>whnf)|((refine dR.i (ih q (by omega) (by omega) n lo p2 W2 hW2i _ _ _ _ _ _ _ rfl rfl rfl rfl rfl rfl) ?_)<;>conv=>whnf)|refine k8 ?_|fail
    simp only[Bool.false_and,Bool.false_eq_true,if_false] at hT;apply kCt [1,3,4,21,22,23] [];conv=>whnf
    exact ihl (j+1,M++uz g fl t.nodes (q:Int)) _ _ _ (by dsimp only;omega) ⟨by dsimp only;omega,by rw[hT,List.append_assoc]⟩ rfl rfl (congrArg (fun z=>iW [(1,B.va 0 102 ((tM n z lo).map .fr))] G.h) (hnx _))
   ·obtain rfl:j=t.nodes[k].kids.length:=by omega
    rw[List.drop_length,ay,Fo.iC,List.append_nil] at hT;subst hT;rw[←hp2,←hW2];apply Sn.go hX;repeat' first|exact k9|refine k2 ?_|apply kA|apply kI;intro hc|(apply Sn.go hX;conv=>whnf)|refine k8 ?_|apply kL;intro hl
    exact cQ.i rfl rfl
end Go.Km
end
section
namespace Go.aa
open Go Go.Km
def gQ(g:List Dfn)(i j:Nat):Bool:=decide (dI g=0)&&decide (j∈iy g i)
def jY(g:List Dfn)(i:Nat):Bool:=decide (dI g=0)&&fN g i
def pw(g:List Dfn):Int:=if dI g=0 then (g.length:Int) else 0
theorem mF(p:Nat→Bool):∀n s,dn p n s=((List.range' s n).filter p).head?
 | 0,s=>rfl
 | n+1,s=>by
  rw[dn,List.range'_succ]
  by_cases h:p s=true
  ·rw[if_pos h,List.filter_cons_of_pos h];rfl
  ·rw[if_neg h,List.filter_cons_of_neg h,mF p n (s+1)]
theorem qF(p:Nat→Bool):(xD p).head?=(dn p 64 0).map Int.ofNat:=by
 rw[mF,xD,List.range_eq_range',List.head?_map]
theorem tV{p q:Nat→Bool}{n N:Nat}(hn:n≤N)(h:∀j<N,q j=(decide (j<n)&&p j)):dn q N 0=dn p n 0:=by
 cases e:dn p n 0 with
 | none=>
  have h1:=iG.1 e;refine iG.2 fun j _ hj=>?_
  rw[h j (by omega)]
  by_cases hjn:j<n
  ·rw[h1 j (by omega) (by omega),Bool.and_false]
  ·rw[decide_eq_false hjn,Bool.false_and]
 | some k=>
  obtain⟨_,h2,h3,h4⟩:=la e;have hqk:q k=true:=by rw[h k (by omega),decide_eq_true (by omega),h3];rfl
  cases e2:dn q N 0 with
  | none=>
   have:=iG.1 e2 k (by omega) (by omega);rw[hqk] at this
   cases this
  | some k2=>
   obtain⟨_,g2,g3,g4⟩:=la e2;have hk2:k2<n∧p k2=true:=by
    rw[h k2 (by omega),Bool.and_eq_true,decide_eq_true_iff] at g3;exact g3
   congr 1
   by_cases e3:k2<k
   ·rw[h4 k2 (by omega) e3] at hk2
    cases hk2.2
   ·by_cases e4:k<k2
    ·rw[g4 k (by omega) e4] at hqk
     cases hqk
    ·omega
theorem Gq{g:List Dfn}(hm:dI g=0)(h64:g.length≤64)(a b:Nat):yU (gQ g) a b↔b∈iy g a:=by
 unfold yU gQ;rw[decide_eq_true hm,Bool.true_and,decide_eq_true_iff];refine⟨fun h=>h.2.2,fun h=>⟨?_,?_,h⟩⟩
 ·by_cases e:a<g.length
  ·omega
  ·rw[iy,List.getElem?_eq_none (by omega)] at h
   cases h
 ·have:=C4 g a b h;omega
theorem Gx{g:List Dfn}(hm:dI g=0)(h64:g.length≤64)(i:Nat):lj (gQ g) i=(decide (i<g.length)&&zQ g i):=by
 have hr:yU (gQ g)=fun a b=>b∈iy g a:=by funext a b;exact propext (Gq hm h64 a b)
 rw[Bool.eq_iff_iff,lj,@decide_eq_true_iff _ (Classical.propDecidable _),hr,Bool.and_eq_true,decide_eq_true_iff]
 by_cases e:i<g.length
 ·rw[Fg e];exact⟨fun h=>⟨e,h⟩,fun h=>h.2⟩
 ·refine⟨fun h=>?_,fun h=>absurd h.1 e⟩
  exfalso
  have:∀c,¬mR (fun a b=>b∈iy g a) i c:=by
   intro c h
   induction h with
   | one h1=>rw[iy,List.getElem?_eq_none (by omega)] at h1;cases h1
   | more _ _ ih=>exact ih
  exact this i h
theorem BM{g:List Dfn}(hm:dI g=0)(h64:g.length≤64):(xD (lj (gQ g))).head?=(dn (zQ g) g.length 0).map Int.ofNat:=by
 rw[qF,tV h64 fun j _=>Gx hm h64 j]
theorem AD{g:List Dfn}(hm:dI g=0)(h64:g.length≤64):(xD (jY g)).head?=(dn (fN g) g.length 0).map Int.ofNat:=by
 rw[qF,tV h64 fun j _=>?_];unfold jY;rw[decide_eq_true hm,Bool.true_and]
 by_cases e:j<g.length
 ·simp[e]
 ·simp[e,fN]
end Go.aa
namespace Go.Km
open Go Go.Vc Go.Proofs Go.aa Go.Proofs.YtoklkjkmbfebjaaGreatDoor
set_option maxRecDepth 100000
set_option maxHeartbeats 0
theorem Fq{g:List Dfn}{i:Nat}(hi:i<g.length):gm g (fun _=>false) (uz g (fU g) g[i].body.nodes g[i].body.root)=fun j=>decide (j∈iy g i):=by
 funext j
 rw[gm,Bool.false_or,Bool.eq_iff_iff,List.any_eq_true,decide_eq_true_iff,iy,List.getElem?_eq_getElem hi];simp only[List.mem_filterMap,decide_eq_true_eq];rfl
def se(g:List Dfn)(i j:Nat):Int:=if j<i then wdI (fun b=>decide (b∈iy g j)) else 0
theorem EF{g:List Dfn}{i:Nat}:eb (se g i) i (wdI fun b=>decide (b∈iy g i))=se g (i+1):=by
 funext j
 unfold eb se
 by_cases e:j=i
 ·subst e;simp
 ·rw[if_neg e]
  by_cases h:j<i
  ·rw[if_pos h,if_pos (by omega)]
  ·rw[if_neg h,if_neg (by omega)]
instance(g:List Dfn):C 47 [bC g] (.tp [.ag (tM (pw g) (fun i=>wdI (gQ g i)) (wdI (jY g))),inF (dI g)]) true (g.length≤1000∧∀d∈g,d.wf):=⟨fun ⟨hn,hw⟩=>by
 have hpre:g.length≤1000∧∀d∈g,d.wf:=⟨hn,hw⟩
 have hX:=u4 [] [68]
 by_cases hm:dI g=0
 ·have ok:=jF hm;have e1:(fun i=>wdI (gQ g i))=fun i=>wdI (fun b=>decide (b∈iy g i)):=by funext i;unfold gQ;simp[hm]
  have e2:jY g=fN g:=by funext i;unfold jY;simp[hm]
  have e3:pw g=(g.length:Int):=by rw[pw,if_pos hm]
  have e4:(gq g).1=fU g:=by rw[gq,if_pos hm]
  have e5:(gq g).2=0:=by rw[gq,if_pos hm]
  rw[e1,e2,e3,hm];refine iL hX rfl rfl ?_;repeat' first|exact k9|refine k2 ?_|apply kA|apply kI;intro hc|apply kL;intro hl|(apply Sn.go hX;conv=>whnf)|((simp only[e5])<;>conv=>whnf)|((simp only[e4])<;>conv=>whnf)|refine k8 ?_|fail
  clear e1 e2 e3 e4 e5;apply kCt [1,2,4,6,25,26,27] [];conv=>whnf
  refine Lp.ind (fun z:Nat=>g.length - z) (fun z=>z≤g.length) (fun z=>[(27,InD z)]) (fun z=>[(2,.va 0 102 ((tM (g.length:Int) (se g z) (wdI fun j=>decide (j<z)&&fN g j)).map .fr))]) (fun _=>_) 0 (Nat.zero_le _) rfl rfl ?_ ?_
  ·have e0:wdI (fun j=>decide (j<0)&&fN g j)=0:=(lx fun j _=>by simp).trans mn;rw[e0,List.length_map];rfl
  rintro G i ih hi
  obtain⟨W,hW⟩:=exEq (se g i);obtain⟨lo,hlo⟩:=exEq (wdI (fun j=>decide (j<i)&&fN g j));rw[←hW,←hlo];have h64:=ok.len
  by_cases hx:i<g.length
  ·have hmem:=List.getElem_mem hx;have hwb:=(hw _ hmem).body;have hRt:=ok.right hmem;have hfl:=vm g;have hnp:(g.length≤1000∧gr g=false)∧(fU g).length=g.length∧g[i].body.wf∧aC g[i].body∧vn g g[i].body.nodes:=⟨⟨hn,ok.J7⟩,hfl,hwb,hRt,ok.named _ hmem⟩
   obtain⟨q,hq⟩:∃q:Nat,g[i].body.root=q:=⟨g[i].body.root.toNat,by have:=hRt.root;omega⟩
   have hql:=hRt.root.2;rw[hq] at hql;have hXl:=cM g (fU g) g[i].body.nodes;have hep:g[i].body.wf∧aC g[i].body∧(aP g (fU g) g[i].body.nodes).length=g[i].body.nodes.length:=⟨hwb,hRt,hXl⟩
   have hW0:W i=wdI (fun _=>false):=by rw[hW,se,if_neg (by omega),mn]
   have hlp:tK (aP g (fU g) g[i].body.nodes) g[i].body.nodes=fN g i:=by rw[Hz g _ hRt,fN,List.getElem?_eq_getElem hx]
   have hWn:eb W i (wdI (gm g (fun _=>false) (uz g (fU g) g[i].body.nodes g[i].body.root)))=se g (i+1):=by rw[Fq hx,hW,EF]
   have hlef:=HG (g:=g) (t:=g[i].body) (fl:=fU g) rfl h64 hwb hRt (show i<64 by omega) q (by omega);unfold Ki at hlef;rw[←hq] at hlef;apply Sn.go hX;repeat' first|exact k9|refine k2 ?_|apply kA|apply kI;intro hc|(apply Sn.go hX;conv=>whnf)|((refine dR.i (hlef (g.length:Int) lo (fun _=>false) W hW0 _ _ _ _ _ _ _ rfl rfl rfl rfl rfl rfl) ?_)<;>conv=>whnf)|refine k8 ?_|apply kL;intro hl
   ·have hl:fN g i=true:=by rw[←hlp];exact hc
    have hlo2:IntKind.u64.wrap ((BitVec.ofInt IntKind.u64.bits lo ||| BitVec.ofInt IntKind.u64.bits (IntKind.u64.wrap (1 * 2 ^ (min ((i:Nat):Int).toNat IntKind.u64.bits)))).toNat:Int)=wdI (fun j=>decide (j<i+1)&&fN g j):=by
     rw[hlo,BX (by omega),CM];refine lx fun j hj=>?_
     by_cases e:j=i
     ·subst e;simp[hl]
     ·have h1:decide (j<i+1)=decide (j<i):=decide_eq_decide.2 (by omega);simp[e,h1]
    apply kCt [1,2,4,6,25,26,27] [];conv=>whnf
    refine ih (i+1) _ _ _ (by omega) (by omega) rfl rfl ?_;exact congrArg (fun z:(Nat→Int)×Int=>iW [(2,B.va 0 102 ((tM (g.length:Int) z.1 z.2).map .fr))] G.h) (Prod.ext hWn hlo2:(eb W i _,_)=(se g (i+1),_))
   ·have hl:fN g i=false:=by rw[←hlp];exact hc
    have hlo2:lo=wdI (fun j=>decide (j<i+1)&&fN g j):=by
     rw[hlo];refine lx fun j hj=>?_
     by_cases e:j=i
     ·subst e;simp[hl]
     ·have h1:decide (j<i+1)=decide (j<i):=decide_eq_decide.2 (by omega);simp[h1]
    apply kCt [1,2,4,6,25,26,27] [];conv=>whnf
    refine ih (i+1) _ _ _ (by omega) (by omega) rfl rfl ?_;exact congrArg (fun z:(Nat→Int)×Int=>iW [(2,B.va 0 102 ((tM (g.length:Int) z.1 z.2).map .fr))] G.h) (Prod.ext hWn hlo2:(eb W i _,_)=(se g (i+1),_))
  ·obtain rfl:i=g.length:=by omega
   rw[hW,hlo];have e6:se g g.length=fun i=>wdI (fun b=>decide (b∈iy g i)):=by
    funext j
    unfold se
    by_cases h:j<g.length
    ·rw[if_pos h]
    ·rw[if_neg h,show(fun b=>decide (b∈iy g j))=fun _=>false from by
      funext b
      rw[iy,List.getElem?_eq_none (by omega)];simp,mn]
   have e7:(fun j=>decide (j<g.length)&&fN g j)=fN g:=by
    funext j
    by_cases h:j<g.length
    ·simp[h]
    ·simp[h,fN]
   rw[e6,e7];apply Sn.go hX;repeat' first|exact k9|refine k2 ?_|apply kA|apply kI;intro hc|(apply Sn.go hX;conv=>whnf)|refine k8 ?_|apply kL;intro hl
   exact ao.j rfl rfl
 ·have e1:(fun i=>wdI (gQ g i))=fun _=>0:=by funext i;unfold gQ;simp[hm,mn]
  have e2:wdI (jY g)=0:=by rw[show jY g=fun _=>false from by funext i;unfold jY;simp[hm],mn]
  have e3:pw g=0:=by rw[pw,if_neg hm]
  have e5:(gq g).2=dI g:=by rw[gq,if_neg hm]
  rw[e1,e2,e3];refine iL hX rfl rfl ?_;repeat' first|exact k9|refine k2 ?_|apply kA|apply kI;intro hc|apply kL;intro hl|(apply Sn.go hX;conv=>whnf)|((simp only[e5])<;>conv=>whnf)|refine k8 ?_|fail
  exact ao.j rfl rfl⟩
theorem xW{L:List Int}{o:Option Nat}(h:L.head?=o.map Int.ofNat)(h0:0<L.length):∃i:Nat,o=some i∧L[0]=(i:Int):=by
 cases o with
 | none=>
  cases L with
  | nil=>simp at h0
  | cons a L=>simp at h
 | some i=>
  cases L with
  | nil=>simp at h0
  | cons a L=>
   simp at h;exact⟨i,rfl,h⟩
theorem tI{L:List Int}{o:Option Nat}(h:L.head?=o.map Int.ofNat)(h0:¬0<L.length):o=none:=by
 cases L with
 | nil=>cases o with
  | none=>rfl
  | some i=>simp at h
 | cons a L=>simp at h0
theorem fe.i{P:Program}{Γ:Nat→Option (List F)}{f:Nat}{l:List F}{r:F}{b:Bool}{pre:Prop}{k:F×Bool→Prop}(h:KC P Γ f l r b pre)(hp:pre)(hk:k (r,b)):fe P Γ f l k:=⟨(r,b),h.h hp,hk⟩
instance(g:List Dfn):C 21 [bC g] (.tp [inF (jK g).1,inF (jK g).2]) true (g.length≤1000∧∀d∈g,d.wf):=⟨fun ⟨hn,hw⟩=>by
 have hpre:g.length≤1000∧∀d∈g,d.wf:=⟨hn,hw⟩
 by_cases hm:dI g=0
 ·have h64:=(jF hm).len;have h1:=BM hm h64;have h2:=AD hm h64;refine kf rfl rfl ?_;repeat' first|exact k9|refine k2 ?_|apply kA|apply kI;intro hc|(apply Sn.go hX;conv=>whnf)|((refine fe.i (K7 (pw g) (gQ g) (wdI (jY g))) trivial ?_)<;>conv=>whnf)|refine k8 ?_|apply kL;intro hl
  ·obtain⟨i,hi1,hi2⟩:=xW h1 (by omega);exact ao.j (by rw[jK,if_pos hm,hi1,hi2]) rfl
  ·obtain⟨i,hi1,hi2⟩:=xW h2 (by omega);exact ao.j (by rw[jK,if_pos hm,tI h1 (by omega),hi1,hi2]) rfl
  ·exact ao.j (by rw[jK,if_pos hm,tI h1 (by omega),tI h2 (by omega)]) rfl
 ·have hW:jK g=(0,dI g):=by rw[jK,if_neg hm]
  rw[hW];refine kf rfl rfl ?_;repeat' (first|exact k9|refine k2 ?_|apply kA|apply kI;intro hc|(apply Sn.go hX;conv=>whnf)|refine k8 ?_|apply kL;intro hl)⟩
instance(g:List Dfn):C 9 [bC g] (inF (bO g)) true (g.length≤1000∧∀d∈g,d.wf):=⟨fun h=>by
 refine kf rfl rfl ?_;repeat' first|exact k9|refine k2 ?_|apply kA|apply kI;intro hc|(apply Sn.go hX;conv=>whnf)|refine k8 ?_|apply kL;intro hl
 exact ao.n rfl rfl⟩
end Go.Km
end
section
namespace Go.aa
open Go Go.Sl
structure WA(ar:List Nod)(bB:List Int):Prop where
 ok:NOk 0 ar
 rng:∀x∈bB,0≤x∧x<ar.length
 cnt:∀i:Nat,i<ar.length→(ax ar).count (i:Int)+bB.count (i:Int)=1
theorem WA.nil:WA [] []:=⟨fun j n h=>by simp at h,by simp,fun i h=>by simp at h⟩
theorem NOk.kok{ar:List Nod}(h:NOk 0 ar):KOk ar:=fun i n hi k hk=>by have:=(h i n hi).2 k hk;omega
theorem WA.JU{ar:List Nod}{bB:List Int}(h:WA ar bB):∀k∈ax ar,k<(ar.length:Int):=by
 intro k hk;obtain⟨n,hn,hkn⟩:=List.mem_flatMap.1 hk;obtain⟨i,hi⟩:=List.mem_iff_getElem?.1 hn;have h1:=(h.ok i n hi).2 k hkn;have:=(List.getElem?_eq_some_iff.1 hi).1;omega
theorem WA.perm{ar:List Nod}{a b:List Int}(h:WA ar a)(p:a.Perm b):WA ar b:=⟨h.ok,fun x hx=>h.rng x (p.mem_iff.2 hx),fun i hi=>by rw[←p.count_eq];exact h.cnt i hi⟩
theorem WA.snoc{ar:List Nod}{bB rest:List Int}{n:Nod}(h:WA ar bB)(hf:fits n n.kids.length=true)(hp:bB.Perm (n.kids++rest)):WA (ar++[n]) ((ar.length:Int) :: rest):=by
 have hk:∀k∈n.kids,0≤k∧k<(ar.length:Int):=fun k hk=>h.rng k (hp.mem_iff.2 (List.mem_append_left _ hk))
 refine⟨NOk.app h.ok fun j m hj=>?_,fun x hx=>?_,fun i hi=>?_⟩
 ·cases j with
  | zero=>
   simp at hj;subst hj;exact⟨hf,fun k hkk=>by have:=hk k hkk;simp;omega⟩
  | succ j=>simp at hj
 ·rcases List.mem_cons.1 hx with rfl|hx
  ·simp;omega
  ·have:=h.rng x (hp.mem_iff.2 (List.mem_append_right _ hx));simp;omega
 ·rw[o7,List.count_append,List.count_cons]
  by_cases e:i<ar.length
  ·have h1:=h.cnt i e;rw[hp.count_eq,List.count_append] at h1;have h2:((ar.length:Int)==(i:Int))=false:=by simp;omega
   rw[h2];simp;omega
  ·have h0:i=ar.length:=by simp at hi;omega
   subst h0;have h1:(ax ar).count (ar.length:Int)=0:=List.count_eq_zero.2 fun hm=>by have:=h.JU _ hm;omega
   have h2:n.kids.count (ar.length:Int)=0:=List.count_eq_zero.2 fun hm=>by have:=(hk _ hm).2;omega
   have h3:rest.count (ar.length:Int)=0:=List.count_eq_zero.2 fun hm=>by have:=(h.rng _ (hp.mem_iff.2 (List.mem_append_right _ hm))).2;omega
   rw[h1,h2,h3];simp
theorem WA.right{ar:List Nod}{r:Int}(h:WA ar [r]):aC ⟨ar,r⟩:=by
 have hr:=h.rng r (by simp);refine⟨hr,fun i n hi=>(h.ok i n hi).1,h.ok.kok,fun i hi=>?_⟩;have:=h.cnt i hi;rw[List.count_cons,List.count_nil] at this
 by_cases e:(i:Int)=r
 ·subst e;simp at this ⊢;exact this
 ·have e':(r==(i:Int))=false:=by simp;omega
  rw[e'] at this;simp at this;rw[if_neg e];exact this
def szN(ns:List Nod)(x:Int):Nat:=(aE ns ns.length [x]).size
theorem szL(ns:List Nod)(hf:0<ns.length):∀l:List Int,(aE ns ns.length l).size=(l.map (szN ns)).sum
 | []=>by rw[ay];rfl
 | x :: l=>by rw[bc x l hf,Fo.fY,szL ns hf l];rfl
theorem wG{ns:List Nod}(hc:bw (ae ns)){x:Int}(h0:0≤x)(hx:x<ns.length):szN ns x=((ae ns x).map (szN ns)).sum+1:=by
 rw[szN,fJ hc h0 hx,Fo.size,szL ns (by omega)];rfl
structure Bfs(ns:List Nod)(root:Int)(i:Nat)(row:List Int):Prop where
 eq:row=root :: (row.take i).flatMap (ae ns)
 le:i≤row.length
 mem:∀x∈row,0≤x∧x<ns.length
 sum:i+((row.drop i).map (szN ns)).sum=szN ns root
 E:∀p<i,p<1+((row.take p).flatMap (ae ns)).length
theorem Bfs.zero{ns:List Nod}{root:Int}(h0:0≤root)(h1:root<ns.length):Bfs ns root 0 [root]:=⟨by simp,by simp,by simp;omega,by simp,fun p h=>by omega⟩
theorem Bfs.step{ns:List Nod}(hk:KOk ns){root:Int}{i:Nat}{row:List Int}(h:Bfs ns root i row)(hi:i<row.length):Bfs ns root (i+1) (row++ae ns row[i]):=by
 have hc:=hk.ae;have ht:(row++ae ns row[i]).take (i+1)=row.take i++[row[i]]:=by
  rw[List.take_append_of_le_length (by omega),List.take_succ_eq_append_getElem hi]
 have hm:=h.mem _ (List.getElem_mem hi);refine⟨?_,by simp;omega,?_,?_,?_⟩
 ·rw[ht,List.flatMap_append,←List.cons_append,←h.eq];simp
 ·intro x hx;rcases List.mem_append.1 hx with hx|hx
  ·exact h.mem x hx
  ·have:=hc _ _ hx;omega
 ·have h1:=h.sum;rw[List.drop_eq_getElem_cons hi,List.map_cons,List.sum_cons,wG hc hm.1 hm.2] at h1;rw[List.drop_append_of_le_length (by omega),List.map_append,List.sum_append];omega
 ·intro p hp;rw[List.take_append_of_le_length (by omega)]
  by_cases e:p<i
  ·exact h.E p e
  ·obtain rfl:p=i:=by omega
   have:=congrArg List.length h.eq;simp only[List.length_cons] at this;omega
theorem JC{ns:List Nod}(hc:bw (ae ns)){x:Int}(h0:0≤x)(hx:x<ns.length):0<szN ns x:=by rw[wG hc h0 hx];omega
theorem Fu{f:Int→Nat}:∀l:List Int,(∀x∈l,0<f x)→l.length≤(l.map f).sum
 | [],_=>by simp
 | x :: l,h=>by
  have h1:=h x (by simp);have h2:=Fu l fun y hy=>h y (by simp[hy])
  simp;omega
theorem Bfs.len{ns:List Nod}(hk:KOk ns){root:Int}{i:Nat}{row:List Int}(h:Bfs ns root i row):row.length≤szN ns root:=by
 have h1:=Fu (f:=szN ns) (row.drop i) fun x hx=>by
  have:=h.mem x (List.mem_of_mem_drop hx);exact JC hk.ae this.1 this.2
 have h2:=h.sum;have h3:=h.le;rw[List.length_drop] at h1;omega
def bE(ns:List Nod)(row:List Int)(p:Nat):Nat:=1+((row.take p).flatMap (ae ns)).length
def dw(ns:List Nod)(row:List Int)(b p:Nat):List Int:=(List.range (ae ns (row.getD p 0)).length).map fun j=>((b+row.length:Nat):Int) - 1 - ((bE ns row p+j:Nat):Int)
def gN(ns:List Nod)(row:List Int)(b p:Nat):Nod:={ ns.getD (row.getD p 0).toNat .zero with kids:=dw ns row b p }
def gA(ar:List Nod)(ns:List Nod)(row:List Int)(m:Nat):List Nod:=ar++(List.range m).map fun j=>gN ns row ar.length (row.length - 1 - j)
theorem vZ(ar ns:List Nod)(row:List Int)(m:Nat):(gA ar ns row m).length=ar.length+m:=by simp[gA]
theorem rJ(ar ns:List Nod)(row:List Int)(m:Nat):gA ar ns row (m+1)=gA ar ns row m++[gN ns row ar.length (row.length - 1 - m)]:=by simp[gA,List.range_succ]
theorem lQ{l:List Int}{i:Nat}(h:i<l.length):l.getD i 0=l[i]:=by simp[List.getD_eq_getElem?_getD,h]
theorem rI{ns:List Nod}{row:List Int}{p:Nat}(hp:p<row.length):bE ns row (p+1)=bE ns row p+(ae ns (row.getD p 0)).length:=by
 rw[bE,bE,List.take_succ_eq_append_getElem hp,List.flatMap_append,List.length_append,lQ hp];simp;omega
structure Row(ns:List Nod)(root:Int)(row:List Int):Prop where
 b:Bfs ns root row.length row
theorem Row.eq{ns:List Nod}{root:Int}{row:List Int}(h:Row ns root row):row=root :: row.flatMap (ae ns):=by
 have:=h.b.eq
 rwa [List.take_length] at this
theorem Row.pos{ns:List Nod}{root:Int}{row:List Int}(h:Row ns root row):0<row.length:=by rw[h.eq];simp
theorem Row.end_{ns:List Nod}{root:Int}{row:List Int}(h:Row ns root row):bE ns row row.length=row.length:=by
 have:=congrArg List.length h.b.eq;simp only[List.length_cons] at this;rw[bE];omega
theorem wm{ns:List Nod}{row:List Int}:∀{p q:Nat},p≤q→q≤row.length→bE ns row p≤bE ns row q:=by
 intro p q h
 induction h with
 | refl=>intro _;exact Nat.le_refl _
 | step h ih=>rename_i m;intro hq;have:=ih (by omega);have:=rI (ns:=ns) (row:=row) (p:=m) (by omega);rw[this];omega
theorem Row.kid{ns:List Nod}{root:Int}{row:List Int}(h:Row ns root row){p j:Nat}(hp:p<row.length)(hj:j<(ae ns (row.getD p 0)).length):row[bE ns row p+j]?=some ((ae ns (row.getD p 0))[j]):=by
 have e:=h.eq;have hsp:row.flatMap (ae ns)=(row.take p).flatMap (ae ns)++(ae ns (row.getD p 0)++(row.drop (p+1)).flatMap (ae ns)):=by
  conv=>lhs;rw[←List.take_append_drop p row,List.drop_eq_getElem_cons hp]
  rw[List.flatMap_append,List.flatMap_cons,lQ hp]
 have:(root :: row.flatMap (ae ns))[bE ns row p+j]?=some ((ae ns (row.getD p 0))[j]):=by
  rw[bE,show 1+((row.take p).flatMap (ae ns)).length+j=((row.take p).flatMap (ae ns)).length+j+1 by omega,List.getElem?_cons_succ,hsp,List.getElem?_append_right (by omega),Nat.add_sub_cancel_left,List.getElem?_append_left hj,List.getElem?_eq_getElem hj]
 rw[←e] at this;exact this
theorem pA{ar ns:List Nod}{f g:Nat}(hf:0<f)(hg:0<g):∀{l m:List Int},l.length=m.length→(∀(j:Nat) (h1:j<l.length) (h2:j<m.length),aE ar f [l[j]]=aE ns g [m[j]])→aE ar f l=aE ns g m
 | [],[],_,_=>by rw[ay,ay]
 | a :: l,b :: m,e,h=>by
  rw[bc a l hf,bc b m hg,pA hf hg (l:=l) (m:=m) (by simpa using e) fun j h1 h2=>h (j+1) (Nat.succ_lt_succ h1) (Nat.succ_lt_succ h2)];exact congrArg (fun z=>Fo.app z (aE ns g m)) (show aE ar f [a]=aE ns g [b] from h 0 (Nat.zero_lt_succ _) (Nat.zero_lt_succ _))
 | [],_ :: _,e,_=>by simp at e
 | _ :: _,[],e,_=>by simp at e
def gI(ns:List Nod)(row:List Int)(b p:Nat):List Int:=(List.range' p (bE ns row p - p)).map fun q:Nat=>((b+row.length:Nat):Int) - 1 - (q:Int)
structure GrI(ar:List Nod)(T:List Int)(ns:List Nod)(row:List Int)(m:Nat):Prop where
 wa:WA (gA ar ns row m) (T++gI ns row ar.length (row.length - m))
 den:∀p:Nat,row.length - m≤p→p<row.length→Den (gA ar ns row m) (((ar.length+row.length:Nat):Int) - 1 - (p:Int)) (aE ns ns.length [row.getD p 0])
theorem Jf{ar:List Nod}{T:List Int}{ns:List Nod}{root:Int}{row:List Int}(h:WA ar T)(hr:Row ns root row):GrI ar T ns row 0:=by
 refine⟨?_,fun p h1 h2=>by omega⟩;rw[Nat.sub_zero,gI,hr.end_,Nat.sub_self];simpa [gA] using h
theorem IL{ar:List Nod}{T:List Int}{t:Tre}(hR:aC t){root:Int}{row:List Int}(hr:Row t.nodes root row){m:Nat}(h:GrI ar T t.nodes row m)(hm:m<row.length):GrI ar T t.nodes row (m+1):=by
 obtain⟨ns,hns⟩:=exEq (t.nodes);have hk:KOk ns:=by rw[hns];exact hR.kok
 have hc:=hk.ae;rw[←hns] at h hr ⊢;obtain⟨p,hp⟩:=exEq (row.length - 1 - m);have hpl:p<row.length:=by omega
 have hx:=hr.b.mem _ (List.getElem_mem hpl);have hgd:=lQ hpl;have hE:p<bE ns row p:=hr.b.E p hpl;have hE2:=rI (ns:=ns) hpl;have hE3:=wm (ns:=ns) (p:=p+1) (q:=row.length) (by omega) (Nat.le_refl _);rw[hr.end_] at hE3;have hlen:=vZ ar ns row m;have hkl:(dw ns row ar.length p).length=(ae ns (row.getD p 0)).length:=by simp[dw]
 have hkg:∀(j:Nat) (hj:j<(dw ns row ar.length p).length),(dw ns row ar.length p)[j]=((ar.length+row.length:Nat):Int) - 1 - ((bE ns row p+j:Nat):Int):=fun j hj=>by simp[dw]
 have hch:ae ns (row.getD p 0)=(ns.getD (row.getD p 0).toNat .zero).kids:=by
  rw[hgd];obtain⟨q,hq⟩:∃q:Nat,row[p]=q:=⟨row[p].toNat,by omega⟩
  rw[hq] at hx ⊢;have hql:q<ns.length:=by omega
  rw[←aI (List.getElem?_eq_getElem hql)];simp[List.getD_eq_getElem?_getD,hql]
 have hfit:fits (gN ns row ar.length p) (gN ns row ar.length p).kids.length=true:=by
  show fits { ns.getD (row.getD p 0).toNat .zero with kids:=dw ns row ar.length p } ((dw ns row ar.length p).length:Int)=true
  rw[mb,hkl,hch];refine hR.fits (row.getD p 0).toNat _ ?_;have hlt:(row.getD p 0).toNat<ns.length:=by rw[hgd];omega
  rw[←hns,List.getElem?_eq_getElem hlt,List.getD_eq_getElem?_getD (l:=ns),List.getElem?_eq_getElem hlt];rfl
 have hden:∀(j:Nat) (hj:j<(dw ns row ar.length p).length),Den (gA ar ns row m) ((dw ns row ar.length p)[j]) (aE ns ns.length [(ae ns (row.getD p 0))[j]'(by rw[←hkl];exact hj)]):=fun j hj=>by
  have hj2:j<(ae ns (row.getD p 0)).length:=by rw[←hkl];exact hj
  have hrk:=hr.kid hpl hj2;obtain⟨hlt,hv⟩:=List.getElem?_eq_some_iff.1 hrk;have:=h.den (bE ns row p+j) (by omega) hlt;rw[lQ hlt,hv] at this;rw[hkg];exact this
 have hf0:0<ns.length:=by omega
 have hnum:((gA ar ns row m).length:Int)=((ar.length+row.length:Nat):Int) - 1 - (p:Int):=by rw[hlen];omega
 refine⟨?_,fun q h1 h2=>?_⟩
 ·rw[rJ,←hp];have hpe:gI ns row ar.length (row.length - m)=(List.range' (p+1) (bE ns row p - (p+1))).map (fun q:Nat=>((ar.length+row.length:Nat):Int) - 1 - (q:Int))++dw ns row ar.length p:=by
   rw[gI,show row.length - m=p+1 by omega,hE2,show bE ns row p+(ae ns (row.getD p 0)).length - (p+1)=(bE ns row p - (p+1))+(ae ns (row.getD p 0)).length by omega,←List.range'_append_1,List.map_append]
   congr 1
   rw[show p+1+(bE ns row p - (p+1))=bE ns row p by omega,dw,List.range'_eq_map_range,List.map_map];rfl
  have hpn:gI ns row ar.length (row.length - (m+1))=(((gA ar ns row m).length:Nat):Int) :: (List.range' (p+1) (bE ns row p - (p+1))).map (fun q:Nat=>((ar.length+row.length:Nat):Int) - 1 - (q:Int)):=by
   rw[gI,show row.length - (m+1)=p by omega,show bE ns row p - p=(bE ns row p - (p+1))+1 by omega,List.range'_succ,List.map_cons,hnum]
  have hwa:=h.wa;rw[hpe,←List.append_assoc] at hwa;have:=hwa.snoc (n:=gN ns row ar.length p) (rest:=T++(List.range' (p+1) (bE ns row p - (p+1))).map (fun q:Nat=>((ar.length+row.length:Nat):Int) - 1 - (q:Int))) hfit List.perm_append_comm;rw[hpn];refine this.perm ?_;exact List.perm_middle.symm
 ·rw[rJ,←hp];have hok:=h.wa.ok.kok.ae
  by_cases e:q=p
  ·subst e;rw[←hnum];have hd:=Den.snoc (n:=gN ns row ar.length q) hok (fun k hkk=>by
    obtain⟨j,hj,rfl⟩:=List.getElem_of_mem (show k∈dw ns row ar.length q from hkk);have:=hden j hj;exact⟨this.pos,this.lt⟩)
   have e1:aE ns ns.length [row.getD q 0]=.cons { gN ns row ar.length q with kids:=[] } (aE (gA ar ns row m) (gA ar ns row m).length (gN ns row ar.length q).kids) .nil:=by
    rw[fJ hc (by rw[hgd];omega) (by rw[hgd];omega)];rw[show(gN ns row ar.length q).kids=dw ns row ar.length q from rfl]
    by_cases e0:(dw ns row ar.length q).length=0
    ·have e3:dw ns row ar.length q=[]:=List.eq_nil_of_length_eq_zero e0;have e4:ae ns (row.getD q 0)=[]:=List.eq_nil_of_length_eq_zero (by rw[←hkl];exact e0);rw[e3,e4,ay,ay];rfl
    ·have h0:=(hden 0 (by omega)).lt;rw[pA (ns:=ns) (g:=ns.length) (m:=ae ns (row.getD q 0)) (by have:=(hden 0 (by omega)).pos;omega) hf0 hkl fun j h1 h2=>(hden j h1).fo];rfl
   rw[e1];exact hd
  ·exact Den.app hok (h.den q (by omega) h2)
theorem zR{ar:List Nod}{T:List Int}(h:WA ar T){t:Tre}(hR:aC t){root:Int}{row:List Int}(hr:Row t.nodes root row) :
  WA (gA ar t.nodes row row.length) (T++[((gA ar t.nodes row row.length).length:Int) - 1])∧Den (gA ar t.nodes row row.length) (((gA ar t.nodes row row.length).length:Int) - 1) (aE t.nodes t.nodes.length [root]):=by
 have key:∀m,m≤row.length→GrI ar T t.nodes row m:=by
  intro m
  induction m with
  | zero=>exact fun _=>Jf h hr
  | succ m ih=>exact fun hm=>IL hR hr (ih (by omega)) (by omega)
 have hg:=key row.length (Nat.le_refl _);have hpos:=hr.pos;have e0:row.getD 0 0=root:=by rw[hr.eq];rfl
 have hl:=vZ ar t.nodes row row.length;have hn:((gA ar t.nodes row row.length).length:Int) - 1=((ar.length+row.length:Nat):Int) - 1 - ((0:Nat):Int):=by rw[hl];omega
 refine⟨?_,?_⟩
 ·have:=hg.wa;rw[Nat.sub_self,gI,show bE t.nodes row 0 - 0=1 by simp[bE]] at this;rw[hn];exact this
 ·have:=hg.den 0 (by omega) hpos;rw[e0] at this;rw[hn];exact this
def Fo.setAt:Nat→Fo→Fo→Fo
 | _,G,.nil=>.nil
 | 0,G,.cons _ _ r=>G.app r
 | i+1,G,.cons n k r=>.cons n k (Fo.setAt i G r)
def cI(ns:List Nod):Int→List Int→Option (List (Int×Int)×Int)
 | k,[]=>some ([],k)
 | k,p :: ps=>if p<0 then none else match (ae ns k)[p.toNat]? with
  | some x=>(match cI ns x ps with
   | some (l,e)=>some ((k,p) :: l,e)
   | none=>none)
  | none=>none
def upS(ns:List Nod)(a:Int×Int)(F:Fo):Fo:=.cons (dat ns a.1) (Fo.setAt a.2.toNat F (aE ns ns.length (ae ns a.1))) .nil
def upF(ns:List Nod)(row:List (Int×Int))(X:Fo):Fo:=row.foldr (upS ns) X
def ff(t:Tre)(path:List Int)(x:Tre):Tre×Bool:=
 if (au t&&au x)=true then (match cI t.nodes t.root path with
  | some (row,_)=>(cP (upF t.nodes row (foT x)).norm,true)
  | none=>(.zero,false))
 else (.zero,false)
def mY(t:Tre)(path:List Int):Tre×Bool:=
 if au t=true then (match cI t.nodes t.root path with
  | some (_,k)=>(aD t k,true)
  | none=>(.zero,false))
 else (.zero,false)
def F6(ns:List Nod)(row:List (Int×Int)):Prop:=∀a∈row,(0≤a.1∧a.1<ns.length)∧0≤a.2∧a.2<(ae ns a.1).length
theorem kU{ns:List Nod}(hc:bw (ae ns)):∀(path:List Int) (k:Int),0≤k→k<ns.length→∀l e,cI ns k path=some (l,e)→F6 ns l∧0≤e∧e<ns.length∧l.length=path.length
 | [],k,h0,h1,l,e,h=>by
  simp only[cI,Option.some.injEq,Prod.mk.injEq] at h;obtain⟨rfl,rfl⟩:=h;exact⟨by simp[F6],h0,h1,rfl⟩
 | p :: ps,k,h0,h1,l,e,h=>by
  rw[cI] at h
  split at h
  ·cases h
  ·rename_i hp
   split at h
   ·rename_i x hx;have hm:=List.mem_of_getElem? hx;have:=hc k x hm;obtain⟨hlt,_⟩:=List.getElem?_eq_some_iff.1 hx
    split at h
    ·rename_i l' e' hd
     cases h;obtain⟨q1,q2,q3,q4⟩:=kU hc ps x this.1 (by omega) l' e hd;refine⟨fun a ha=>?_,q2,q3,by simp[q4]⟩;rcases List.mem_cons.1 ha with rfl|ha
     ·exact⟨⟨h0,h1⟩,by dsimp only;omega,by dsimp only;omega⟩
     ·exact q1 a ha
    ·cases h
   ·cases h
structure UpI(ns ar:List Nod)(a:Int×Int)(root:Int)(X:Fo)(ks:List Int)(i:Nat):Prop where
 wa:WA ar (ks++if (i:Int)≤a.2 then [root] else [])
 len:ks.length=i
 root:(i:Int)≤a.2→Den ar root X
 den:∀(j:Nat) (h1:j<ks.length) (h2:j<(ae ns a.1).length),Den ar ks[j] (if (j:Int)=a.2 then X else aE ns ns.length [(ae ns a.1)[j]])
theorem rZ{ar ns:List Nod}{f g:Nat}(hf:0<f)(hg:0<g)(X:Fo):∀{l m:List Int} (k:Nat),l.length=m.length→(∀(j:Nat) (h1:j<l.length) (h2:j<m.length),aE ar f [l[j]]=if j=k then X else aE ns g [m[j]])→aE ar f l=Fo.setAt k X (aE ns g m)
 | [],[],k,_,_=>by rw[ay,ay];cases k<;>rfl
 | a :: l,b :: m,k,e,h=>by
  obtain⟨j,hj⟩:=fM (ns:=ns) (f:=g) b hg;rw[bc a l hf,bc b m hg,hj];have h0:aE ar f [a]=if 0=k then X else aE ns g [b]:=h 0 (Nat.zero_lt_succ _) (Nat.zero_lt_succ _)
  rw[h0]
  cases k with
  | zero=>
   rw[if_pos rfl,pA hf hg (l:=l) (m:=m) (by simpa using e) fun j h1 h2=>(h (j+1) (Nat.succ_lt_succ h1) (Nat.succ_lt_succ h2)).trans (if_neg (by omega))];rfl
  | succ k=>
   rw[if_neg (by omega),hj,rZ (ns:=ns) hf hg X (l:=l) (m:=m) k (by simpa using e) fun j h1 h2=>(h (j+1) (Nat.succ_lt_succ h1) (Nat.succ_lt_succ h2)).trans (by by_cases e:j=k<;>simp[e])];rfl
 | [],_ :: _,_,e,_=>by simp at e
 | _ :: _,[],_,e,_=>by simp at e
theorem Jj{ns ar:List Nod}{a:Int×Int}{root:Int}{X:Fo}(hw:WA ar [root])(hd:Den ar root X)(ha:0≤a.2):UpI ns ar a root X [] 0:=⟨by simpa [ha] using hw,rfl,fun _=>hd,fun j h1=>by simp at h1⟩
theorem K0{ns ar:List Nod}{a:Int×Int}{root:Int}{X:Fo}{ks:List Int}{i:Nat}(h:UpI ns ar a root X ks i)(hi:(i:Int)=a.2):UpI ns ar a root X (ks++[root]) (i+1):=by
 have hw:=h.wa;rw[if_pos (by omega)] at hw;refine⟨by rw[if_neg (by omega),List.append_nil];exact hw,by simp[h.len],fun q=>by omega,fun j h1 h2=>?_⟩
 by_cases e:j<ks.length
 ·rw[List.getElem_append_left e];exact h.den j e h2
 ·have:j=i:=by simp[h.len] at h1 e;omega
  subst this;rw[List.getElem_append_right (by omega),if_pos hi];simpa using h.root (by omega)
theorem KK{t:Tre}(hR:aC t){ar:List Nod}{a:Int×Int}{root:Int}{X:Fo}{ks:List Int}{i:Nat}(h:UpI t.nodes ar a root X ks i)(hi:(i:Int)≠a.2)(hl:i<(ae t.nodes a.1).length){row:List Int}(hr:Row t.nodes (ae t.nodes a.1)[i] row) :
  UpI t.nodes (gA ar t.nodes row row.length) a root X (ks++[((gA ar t.nodes row row.length).length:Int) - 1]) (i+1):=by
 obtain⟨hg,hgd⟩:=zR h.wa hR hr;have hkk:∀{p:Int} {F:Fo},Den ar p F→Den (gA ar t.nodes row row.length) p F:=fun hd=>Den.app h.wa.ok.kok.ae hd
 refine⟨hg.perm ?_,by simp[h.len],fun q=>hkk (h.root (by omega)),fun j h1 h2=>?_⟩
 ·rw[show(if ((i+1:Nat):Int)≤a.2 then [root] else [])=if (i:Int)≤a.2 then [root] else [] by
   by_cases e:(i:Int)≤a.2
   ·rw[if_pos e,if_pos (by omega)]
   ·rw[if_neg e,if_neg (by omega)]]
  rw[List.append_assoc,List.append_assoc];exact List.Perm.append_left _ List.perm_append_comm
 ·by_cases e:j<ks.length
  ·rw[List.getElem_append_left e];exact hkk (h.den j e h2)
  ·have:j=i:=by simp[h.len] at h1 e;omega
   subst this;rw[List.getElem_append_right (by omega),if_neg hi];simpa using hgd
theorem Jp{t:Tre}(hR:aC t){ar:List Nod}{a:Int×Int}{root:Int}{X:Fo}{ks:List Int}(ha:(0≤a.1∧a.1<t.nodes.length)∧0≤a.2∧a.2<(ae t.nodes a.1).length)(h:UpI t.nodes ar a root X ks (ae t.nodes a.1).length)(n:Nod)(hn:n=t.nodes.getD a.1.toNat .zero) :
  WA (ar++[{ n with kids:=ks }]) [(ar.length:Int)]∧Den (ar++[{ n with kids:=ks }]) (ar.length:Int) (upS t.nodes a X):=by
 have hw:=h.wa;rw[if_neg (by omega),List.append_nil] at hw;have hch:ae t.nodes a.1=n.kids:=by
  rw[hn];obtain⟨q,hq⟩:∃q:Nat,a.1=q:=⟨a.1.toNat,by omega⟩
  have hql:q<t.nodes.length:=by omega
  rw[hq,←aI (List.getElem?_eq_getElem hql)];simp[List.getD_eq_getElem?_getD,hql]
 have hfit:fits { n with kids:=ks } (ks.length:Int)=true:=by
  rw[mb,h.len,hch];refine hR.fits a.1.toNat n ?_;rw[hn,List.getD_eq_getElem?_getD,List.getElem?_eq_getElem (by omega)];rfl
 have hden:∀(j:Nat) (h1:j<ks.length),Den ar ks[j] (if (j:Int)=a.2 then X else aE t.nodes t.nodes.length [(ae t.nodes a.1)[j]'(by rw[←h.len];exact h1)]):=fun j h1=>h.den j h1 (by rw[←h.len];exact h1)
 refine⟨by simpa using hw.snoc (n:={ n with kids:=ks }) (rest:=[]) hfit (by simp),?_⟩;have hd:=Den.snoc (n:={ n with kids:=ks }) hw.ok.kok.ae (fun k hk=>hw.rng k hk);have e1:upS t.nodes a X=.cons { ({ n with kids:=ks }:Nod) with kids:=[] } (aE ar ar.length ks) .nil:=by
  have h0:0<ks.length:=by rw[h.len];omega
  rw[upS,rZ (ar:=ar) (ns:=t.nodes) (f:=ar.length) (g:=t.nodes.length) (by have:=(hden 0 h0).lt;have:=(hden 0 h0).pos;omega) (by omega) X (l:=ks) (m:=ae t.nodes a.1) a.2.toNat h.len fun j h1 h2=>?_]
  ·rw[dat,←hn]
  ·rw[(h.den j h1 h2).fo]
   by_cases e:(j:Int)=a.2
   ·rw[if_pos e,if_pos (by omega)]
   ·rw[if_neg e,if_neg (by omega)]
 rw[e1];exact hd
theorem E1{ar:List Nod}{root:Int}{F:Fo}(hw:WA ar [root])(hd:Den ar root F):gw ⟨ar,root⟩=(cP F.norm,true):=by
 rw[lK hw.right.right,foT,hd.fo]
end Go.aa
end
section
namespace Go.Km
open Go Go.Vc Go.Proofs Go.aa Go.Proofs.YtoklkjkmbfebjaaGreatDoor
set_option maxRecDepth 100000
set_option maxHeartbeats 0
abbrev xc(a:Int×Int):List F:=[inF a.1,inF a.2]
instance:kP xc 2:=⟨fun _=>rfl⟩
def dnR:Option (List (Int×Int)×Int)→List (Int×Int)
 | some (l,_)=>l
 | none=>[]
def dnK:Option (List (Int×Int)×Int)→Int
 | some (_,e)=>e
 | none=>0
instance(t:Tre)(p:List Int):C 82 [az t,isF p] (.tp [.sl ((dnR (cI t.nodes t.root p)).map xc),inF (dnK (cI t.nodes t.root p)),boF (cI t.nodes t.root p).isSome]) false (t.wf∧aC t∧p.length≤1000000):=⟨fun ⟨hw,hR,hp⟩=>by
 have hlen:=hw.len;simp only[ca] at hlen;have hc:=hR.kok.ae;refine kf rfl rfl ?_;repeat' first|exact k9|refine k2 ?_|apply kA|apply kI;intro hc|refine k8 ?_|apply kL;intro hl
 apply Stp.ng 7 163 2 rfl rfl;apply kCt [2,7,8,14,15,16] [];conv=>whnf
 obtain⟨r,hr⟩:∃r:Nat,t.root=r:=⟨t.root.toNat,by have:=hR.root;omega⟩
 have hrl:=hR.root.2;rw[hr] at hrl ⊢;obtain⟨D0,hD0⟩:∃o,o=cI t.nodes (r:Int) p:=⟨_,rfl⟩
 rw[←hD0];refine Lp.ind (fun x:Nat×List (Int×Int)×Nat=>p.length - x.1) (fun x=>x.1≤p.length∧x.2.1.length=x.1∧x.2.2<t.nodes.length∧D0=(match cI t.nodes (x.2.2:Int) (p.drop x.1) with|some (l,e)=>some (x.2.1++l,e)|none=>none)) (fun x=>[(16,InD x.1),(8,InD x.2.2)]) (fun x=>[(1,.ro 0 163 2 (x.2.1.map xc))]) (fun _=>_) (0,[],r) ⟨Nat.zero_le _,rfl,by dsimp only;omega,by dsimp only;rw[List.drop_zero,←hD0];cases D0<;>rfl⟩ rfl rfl rfl ?_
 rintro G ⟨i,l,q⟩ ih ⟨hi,hl0,hq,hT⟩
 dsimp only at hi hl0 hq hT ih ⊢
 by_cases hx:i<p.length
 ·rw[List.drop_eq_getElem_cons hx,cI] at hT;have hch:ae t.nodes (q:Int)=t.nodes[q].kids:=(aI (List.getElem?_eq_getElem hq)).symm;rw[hch] at hT;have hko:=hR.kok q t.nodes[q] (List.getElem?_eq_getElem hq)
  by_cases h0:p[i]<0
  ·rw[if_pos h0] at hT;subst hT
   repeat' first|exact k9|refine k2 ?_|apply kA|apply kI;intro hc|refine k8 ?_|apply kL;intro hl
   exact ao.i rfl
  ·rw[if_neg h0] at hT
   by_cases h1:p[i].toNat<t.nodes[q].kids.length
   ·rw[List.getElem?_eq_getElem h1] at hT;obtain⟨y,hy⟩:∃y:Nat,t.nodes[q].kids[p[i].toNat]=y:=⟨t.nodes[q].kids[p[i].toNat].toNat,by have:=hko _ (List.getElem_mem h1);omega⟩
    have hyl:=hko _ (List.getElem_mem h1);rw[hy] at hyl;have hyi:∀h:p[i].toNat<t.nodes[q].kids.length,t.nodes[q].kids[p[i].toNat]'h=(y:Int):=fun _=>hy
    simp only[hy] at hT
    repeat' first|exact k9|refine k2 ?_|apply kA|apply kI;intro hc|apply kL;intro hl|((simp only[hyi])<;>conv=>whnf)|refine k8 ?_|fail
    apply kCt [2,7,8,14,15,16] [];conv=>whnf
    refine ih (i+1,l++[((q:Int),p[i])],y) _ _ _ (by dsimp only;omega) ⟨by dsimp only;omega,by simp[hl0],by dsimp only;omega,?_⟩ rfl rfl ?_
    ·dsimp only;rw[hT]
     cases cI t.nodes (y:Int) (p.drop (i+1)) with
     | none=>rfl
     | some x=>obtain⟨a,b⟩:=x;simp
    ·dsimp only;rw[List.map_append];rfl
   ·rw[List.getElem?_eq_none (by omega)] at hT;simp only at hT;subst hT
    repeat' first|exact k9|refine k2 ?_|apply kA|apply kI;intro hc|refine k8 ?_|apply kL;intro hl
    exact ao.i rfl
 ·obtain rfl:i=p.length:=by omega
  rw[List.drop_length,cI] at hT;simp only[List.append_nil] at hT;subst hT
  repeat' first|exact k9|refine k2 ?_|apply kA|apply kI;intro hc|refine k8 ?_|apply kL;intro hl
  exact ao.i rfl⟩
instance(l:List (Int×Int)):C 102 [.sl (l.map xc)] (.tp [.ag (xc (l.getLastD (0,0))),.sl (l.dropLast.map xc)]) false (0<l.length∧l.length≤1000000):=⟨fun ⟨h0,hl⟩=>by
 have hlast:∀h:(((l.length:Nat):Int) - 1).toNat<l.length,l[(((l.length:Nat):Int) - 1).toNat]'h=l.getLastD (0,0):=fun h=>by
  obtain⟨m,a,rfl⟩:=(bm l).resolve_left (by intro e;subst e;simp at h0);simp
 have htk:List.take (((l.length:Nat):Int) - 1).toNat (l.map xc)=l.dropLast.map xc:=by
  rw[show(((l.length:Nat):Int) - 1).toNat=l.length - 1 by omega,List.dropLast_eq_take,List.map_take]
 refine kf rfl rfl ?_;repeat' first|exact k9|refine k2 ?_|apply kA|apply kI;intro hc|refine k8 ?_|apply kL;intro hl
 refine ao.i ?_;simp only[List.length_map,hlast,List.drop_zero,htk]⟩
instance(t:Tre)(p:List Int):C 60 [az t,isF p] (.tp [az (mY t p).1,boF (mY t p).2]) false (t.wf∧p.length≤1000000):=⟨fun ⟨hw,hp⟩=>by
 cases hr:au t with
 | false=>
  have e:mY t p=(.zero,false):=by rw[mY,if_neg (by rw[hr];decide)]
  rw[e];refine kf rfl rfl ?_;repeat' first|exact k9|refine k2 ?_|apply kA|apply kI;intro hc|refine k8 ?_|apply kL;intro hl
  exact ao.i rfl
 | true=>
  have hR:=aq hr;have hpre:t.wf∧aC t∧p.length≤1000000:=⟨hw,hR,hp⟩
  have hd:=kU hR.kok.ae p t.root hR.root.1 hR.root.2;refine kf rfl rfl ?_;repeat' first|exact k9|refine k2 ?_|apply kA|apply kI;intro hc|refine k8 ?_|apply kL;intro hl
  ·obtain⟨⟨l,k⟩,ho⟩:=Option.isSome_iff_exists.1 hc;obtain⟨_,h1,h2,_⟩:=hd l k ho;have e:mY t p=(aD t k,true):=by rw[mY,if_pos hr,ho]
   have e2:dA t k=(aD t k,true):=by rw[dA,if_pos ⟨hr,h1,h2⟩]
   have e3:dnK (cI t.nodes t.root p)=k:=by rw[ho];rfl
   rw[e,e3,e2];exact ao.i rfl
  ·have ho:cI t.nodes t.root p=none:=by
    cases h:cI t.nodes t.root p with
    | none=>rfl
    | some x=>rw[h] at hc;cases hc
   have e:mY t p=(.zero,false):=by rw[mY,if_pos hr,ho]
   rw[e];exact ao.i rfl⟩
end Go.Km
end
section
namespace Go.aa
open Go Go.Sl
theorem xm{t:Tre}(h:aC t){x:Int}(h0:0≤x)(hx:x<t.nodes.length):szN t.nodes x≤t.nodes.length:=by
 rw[szN,iZ];exact fj h h0 hx
def gx(ar:List Nod):Prop:=∀n∈ar,({ n with kids:=[] }:Nod).wf∧n.kids.length≤dS
theorem gx.app{a b:List Nod}(h:gx a)(k:gx b):gx (a++b):=fun n hn=>by
 rcases List.mem_append.1 hn with hn|hn
 ·exact h n hn
 ·exact k n hn
theorem gx.gA{ar ns:List Nod}{row:List Int}{m:Nat}(h:gx ar)(hn:∀n∈ns,n.wf):gx (gA ar ns row m):=by
 refine gx.app h fun n hm=>?_;obtain⟨j,_,rfl⟩:=List.mem_map.1 hm;obtain⟨q,hq⟩:=exEq (row.getD (row.length - 1 - j) 0);have hw:(ns.getD q.toNat .zero).wf:=by
  rw[List.getD_eq_getElem?_getD]
  cases e:ns[q.toNat]? with
  | none=>exact Nod.a7
  | some n=>exact hn n (List.mem_of_getElem? e)
 refine⟨?_,?_⟩
 ·show({ ns.getD (row.getD (row.length - 1 - j) 0).toNat .zero with kids:=[] }:Nod).wf
  rw[←hq];exact hw.wf0
 ·show(dw ns row ar.length (row.length - 1 - j)).length≤dS
  rw[dw,List.length_map,List.length_range,←hq,ae]
  split
  ·exact Nat.zero_le _
  ·unfold mX
   split
   ·rename_i n e;exact(hn n (List.mem_of_getElem? e)).kids.1
   ·exact Nat.zero_le _
theorem gx.wf{ar:List Nod}(h:gx ar)(hk:NOk 0 ar)(hl:ar.length≤ca):∀n∈ar,n.wf:=fun n hn=>by
 obtain⟨h1,h2⟩:=h n hn;obtain⟨i,hi⟩:=List.mem_iff_getElem?.1 hn;have h3:=(hk i n hi).2;have h4:=(List.getElem?_eq_some_iff.1 hi).1;unfold ca at hl;exact⟨h1.kind,h1.set,h1.text,h1.min,h1.max,h2,fun x hx=>by have:=h3 x hx;unfold I64;omega⟩
end Go.aa
namespace Go.Km
open Go Go.Vc Go.Proofs Go.aa Go.Proofs.YtoklkjkmbfebjaaGreatDoor
set_option maxRecDepth 100000
set_option maxHeartbeats 0
theorem MD(t:Tre):C 84 [az t] (.tp [az (gw t).1,boF (gw t).2]) false t.wf:=inferInstance
instance(t x:Tre)(p:List Int):C 64 [az t,isF p,az x] (.tp [az (ff t p x).1,boF (ff t p x).2]) false (t.wf∧x.wf∧t.nodes.length≤100000∧x.nodes.length≤100000∧p.length≤1000000):=⟨fun ⟨hw,hwx,htl,hxl,hp⟩=>by
 cases hr:au t with
 | false=>
  have e:ff t p x=(.zero,false):=by rw[ff,hr];rfl
  rw[e];refine kf rfl rfl ?_;repeat' first|exact k9|refine k2 ?_|apply kA|apply kI;intro hc|(apply Sn.go hX;conv=>whnf)|refine k8 ?_|apply kL;intro hl
  exact ao.i rfl
 | true=>
  cases hrx:au x with
  | false=>
   have e:ff t p x=(.zero,false):=by rw[ff,hr,hrx];rfl
   rw[e];refine kf rfl rfl ?_;repeat' first|exact k9|refine k2 ?_|apply kA|apply kI;intro hc|(apply Sn.go hX;conv=>whnf)|refine k8 ?_|apply kL;intro hl
   exact ao.i rfl
  | true=>
   have hR:=aq hr;have hRx:=aq hrx;have hpre:t.wf∧aC t∧p.length≤1000000:=⟨hw,hR,hp⟩
   cases hd:cI t.nodes t.root p with
   | none=>
    have e:ff t p x=(.zero,false):=by rw[ff,hr,hrx,hd];rfl
    have h1:(cI t.nodes t.root p).isSome=false:=by rw[hd];rfl
    rw[e];refine kf rfl rfl ?_;repeat' first|exact k9|refine k2 ?_|apply kA|apply kI;intro hc|(apply Sn.go hX;conv=>whnf)|refine k8 ?_|apply kL;intro hl
    exact ao.i rfl
   | some y=>
    obtain⟨row,k⟩:=y;have e:ff t p x=(cP (upF t.nodes row (foT x)).norm,true):=by rw[ff,hr,hrx,hd];rfl
    have h1:(cI t.nodes t.root p).isSome=true:=by rw[hd];rfl
    have h2:dnR (cI t.nodes t.root p)=row:=by rw[hd];rfl
    obtain⟨hab,_,_,hrl⟩:=kU hR.kok.ae p t.root hR.root.1 hR.root.2 row k hd;rw[e];refine kf rfl rfl ?_;repeat' first|exact k9|refine k2 ?_|apply kA|apply kI;intro hc|apply kL;intro hl|(apply Sn.go hX;conv=>whnf)|((simp only[h2])<;>conv=>whnf)|refine k8 ?_|fail
    have hrx1:=hRx.root;apply Stp.ng 0 54 9 rfl rfl;obtain⟨ns,hns⟩:=exEq (x.nodes);have hk_:KOk ns:=by rw[hns];exact(hRx).kok
    have hsz:szN ns x.root≤ns.length:=by rw[hns];exact xm hRx (by omega) (by omega)
    have hnl:ns.length≤100000:=by rw[hns];exact hxl
    have hnw:∀n∈ns,n.wf:=by rw[hns];exact(hwx).nodes
    apply kCt [0,4,8,9] [3,6,8];conv=>whnf
    refine Lp.ind (fun z:Nat×List Int=>szN ns x.root - z.1) (fun z=>Bfs ns x.root z.1 z.2) (fun z=>[(9,InD z.1)]) (fun z=>[(2,.ro 0 3 1 (z.2.map ikF))]) (fun _=>_) (0,[x.root]) (Bfs.zero (by omega) (by rw[hns];omega)) rfl rfl rfl ?_
    rintro G1 ⟨i,rw_⟩ ih1 hB
    dsimp only at hB ih1 ⊢;have hBl:=hB.len hk_;have hBi:=hB.le
    by_cases hx1:i<rw_.length
    ·have hst:=hB.step hk_ hx1;have hsl:=hst.len hk_;have hm:=hB.mem _ (List.getElem_mem hx1);obtain⟨q,hq⟩:∃q:Nat,rw_[i]=q:=⟨rw_[i].toNat,by omega⟩
     rw[hq] at hm hst hsl;have hql:q<ns.length:=by omega
     have hqi:∀h:i<rw_.length,rw_[i]'h=(q:Int):=fun _=>hq
     have hch:ae ns (q:Int)=ns[q].kids:=(aI (List.getElem?_eq_getElem hql)).symm;rw[hch] at hst hsl;subst hns;simp only[List.length_append] at hsl
     repeat' first|exact k9|refine k2 ?_|apply kA|apply kI;intro hc|apply kL;intro hl|(apply Sn.go hX;conv=>whnf)|((simp only[hqi])<;>conv=>whnf)|refine k8 ?_|fail
     apply kCt [0,4,8,9] [3,6,8];conv=>whnf
     refine ih1 (i+1,rw_++x.nodes[q].kids) _ _ _ (by dsimp only;omega) hst rfl rfl ?_;dsimp only;rw[List.map_append];rfl
    obtain rfl:i=rw_.length:=by omega
    have hRow:Row ns x.root rw_:=⟨hB⟩
    have hpos:=hRow.pos;have hend:=hRow.end_;clear ih1
    repeat' first|exact k9|refine k2 ?_|apply kA|apply kI;intro hc|(apply Sn.go hX;conv=>whnf)|refine k8 ?_|apply kL;intro hl
    apply kCt [0,4,8,10,11] [3,6,8];conv=>whnf
    refine Lp.ind (fun m:Nat=>rw_.length - m) (fun m=>m≤rw_.length) (fun m=>[(11,InD (((rw_.length:Nat):Int) - 1 - (m:Int))),(10,InD (bE ns rw_ (rw_.length - m)))]) (fun m=>[(0,.ro 0 54 9 ((gA ([]:List Nod) ns rw_ m).map aU))]) (fun _=>_) 0 (Nat.zero_le _) rfl (by rw[Nat.sub_zero,hend];simp only[List.length_map,Int.natCast_zero,Int.sub_zero];rfl) (by simp only[gA,List.range_zero,List.map_nil,List.append_nil];rfl) ?_
    rintro G2 m ih2 hmr
    have hgl:=vZ ([]:List Nod) ns rw_ m
    by_cases hx2:m<rw_.length
    ·obtain⟨pp,hpp⟩:=exEq (rw_.length - 1 - m);have hppl:pp<rw_.length:=by omega
     have hpi:((rw_.length:Nat):Int) - 1 - (m:Int)=(pp:Int):=by omega
     have hpe:rw_.length - m=pp+1:=by omega
     have hsu:=rJ ([]:List Nod) ns rw_ m;rw[←hpp] at hsu;have hE:=rI (ns:=ns) hppl;have hEm:=wm (ns:=ns) (p:=pp+1) (q:=rw_.length) (by omega) (Nat.le_refl _);rw[hend] at hEm;have hmm:=hB.mem _ (List.getElem_mem hppl);obtain⟨q,hq⟩:∃q:Nat,rw_[pp]=q:=⟨rw_[pp].toNat,by omega⟩
     rw[hq] at hmm;have hqi:∀h:pp<rw_.length,rw_[pp]'h=(q:Int):=fun _=>hq
     have hql:q<ns.length:=by omega
     have hgd:rw_.getD pp 0=(q:Int):=(lQ hppl).trans hq;have hch:ae ns (q:Int)=ns[q].kids:=(aI (List.getElem?_eq_getElem hql)).symm;rw[hgd,hch] at hE;rw[hE] at hEm;obtain⟨nn,hnn⟩:=exEq (ns[q]);rw[←hnn] at hE hEm hch;have hnq:ns.getD (rw_.getD pp 0).toNat .zero=nn:=by rw[hgd,Int.toNat_natCast,hnn];simp[List.getD_eq_getElem?_getD,hql]
     obtain⟨gk,hgk⟩:=exEq (dw ns rw_ ([]:List Nod).length pp);have hgkl:gk.length=nn.kids.length:=by rw[hgk,dw,List.length_map,List.length_range,hgd,hch]
     have hgka:∀(j:Nat) (h:j<gk.length),gk[j]=((([]:List Nod).length+rw_.length:Nat):Int) - 1 - ((bE ns rw_ pp+j:Nat):Int):=fun j h=>by simp only[hgk,dw,List.getElem_map,List.getElem_range]
     have hgn:gN ns rw_ ([]:List Nod).length pp={ nn with kids:=gk }:=by rw[gN,hnq,hgk]
     obtain⟨A,hA⟩:=exEq (gA ([]:List Nod) ns rw_ m);rw[←hA] at hgl hsu ⊢;obtain⟨Ep,hEp⟩:=exEq (bE ns rw_ pp);rw[hpi,hpe,hE];rw[←hEp] at hgka hE hEm ⊢;have hnr:ns.length=x.nodes.length:=by rw[hns]
     have hkq:=(hnw _ (List.getElem_mem hql)).kids.1;simp only[dS] at hkq;rw[←hnn] at hkq;have hnsq:∀h:((q:Nat):Int).toNat<x.nodes.length,x.nodes[((q:Nat):Int).toNat]'h=nn:=fun h=>by simp only[hnn,hns,Int.toNat_natCast]
     have hARb:([]:List Nod).length≤1000000000000:=(by simp)
     rw[hgn] at hsu
     repeat' first|exact k9|refine k2 ?_|apply kA|apply kI;intro hc|apply kL;intro hl|(apply Sn.go hX;conv=>whnf)|((simp only[hqi])<;>conv=>whnf)|((simp only[hnsq])<;>conv=>whnf)|refine k8 ?_|fail
     simp only[List.length_replicate,List.length_map];rw[show(((Ep+nn.kids.length:Nat):Int) - ((nn.kids.length:Nat):Int))=(Ep:Int) by omega];apply kCt [0,4,8,10,11,12,13,60,61] [3,6,8];conv=>whnf
     refine Lp.ind (fun j:Nat=>nn.kids.length - j) (fun j=>j≤nn.kids.length) (fun j=>[(61,InD j)]) (fun j=>[(4,.ro 0 3 1 ((gk.take j++List.replicate (nn.kids.length - j) 0).map ikF))]) (fun _=>_) 0 (Nat.zero_le _) rfl rfl (by simp only[List.take_zero,List.nil_append,Nat.sub_zero,List.map_replicate];rfl) ?_
     rintro G3 j ih3 hj
     have hfl:(gk.take j++List.replicate (nn.kids.length - j) 0).length=nn.kids.length:=by rw[List.length_append,List.length_take,List.length_replicate];omega
     by_cases hx3:j<nn.kids.length
     ·have hval:=hgka j (by omega);have hstep:((gk.take j++List.replicate (nn.kids.length - j) 0).map ikF).set j (ikF gk[j])=(gk.take (j+1)++List.replicate (nn.kids.length - (j+1)) 0).map ikF:=by
       rw[←List.map_set]
       congr 1
       rw[List.set_append_right _ _ (by rw[List.length_take];omega),List.length_take,show j - min j gk.length=0 by omega,List.take_succ_eq_append_getElem (by omega),show nn.kids.length - j=(nn.kids.length - (j+1))+1 by omega,List.replicate_succ,List.append_assoc];rfl
      obtain⟨X,hX⟩:=exEq (gk.take j++List.replicate (nn.kids.length - j) 0);rw[←hX] at hfl hstep ⊢;have hvv:(((A.map aU).length:Nat):Int)+(pp:Int) - ((Ep:Int)+(j:Int))=gk[j]:=by rw[List.length_map,hval];omega
      repeat' first|exact k9|refine k2 ?_|apply kA|apply kI;intro hc|(apply Sn.go hX;conv=>whnf)|refine k8 ?_|apply kL;intro hl
      rw[hvv];apply kCt [0,4,8,10,11,12,13,60,61] [3,6,8];conv=>whnf
      refine ih3 (j+1) _ _ _ (by omega) (by omega) rfl rfl ?_;rw[←hstep];rfl
     obtain rfl:j=nn.kids.length:=by omega
     rw[Nat.sub_self,List.replicate_zero,List.append_nil,List.take_of_length_le (by omega)];clear ih3
     repeat' first|exact k9|refine k2 ?_|apply kA|apply kI;intro hc|(apply Sn.go hX;conv=>whnf)|refine k8 ?_|apply kL;intro hl
     apply kCt [0,4,8,10,11] [3,6,8];conv=>whnf
     refine ih2 (m+1) _ _ _ (by omega) (by omega) rfl ?_ ?_
     ·rw[show((rw_.length:Nat):Int) - 1 - ((m+1:Nat):Int)=(pp:Int) - 1 by omega,show rw_.length - (m+1)=pp by omega,←hEp];rfl
     ·rw[hsu,List.map_append];rfl
    obtain rfl:m=rw_.length:=by omega
    clear ih2 hB;have hgl3:=hgl;simp only[List.length_nil,Nat.zero_add] at hgl3;obtain⟨hg1,hg2'⟩:=zR WA.nil hRx (by rw[←hns];exact hRow:Row x.nodes x.root rw_);have hg5:gx (gA [] ns rw_ rw_.length):=by rw[hns];exact gx.gA (fun n h=>by cases h) hwx.nodes
    rw[←hns] at hg1;have hg2:Den (gA [] ns rw_ rw_.length) (((gA [] ns rw_ rw_.length).length:Int) - 1) (foT x):=by rw[foT,hns];exact hg2'
    clear hg2';have hg3:(((gA [] ns rw_ rw_.length).length - 1:Nat):Int)=(((gA [] ns rw_ rw_.length).length:Nat):Int) - 1:=by omega
    have hg4:(((List.map aU (gA [] ns rw_ rw_.length)).length:Nat):Int) - 1=(((gA [] ns rw_ rw_.length).length - 1:Nat):Int):=by rw[List.length_map];omega
    repeat' first|exact k9|refine k2 ?_|apply kA|apply kI;intro hc|(apply Sn.go hX;conv=>whnf)|refine k8 ?_|apply kL;intro hl
    rw[hg4];apply kCt [0,2,3,5] [6];conv=>whnf
    refine Lp.ind (fun z:Nat×List Nod×Nat=>z.1) (fun z=>z.1≤row.length∧WA z.2.1 [(z.2.2:Int)]∧Den z.2.1 (z.2.2:Int) (upF t.nodes (row.drop z.1) (foT x))∧z.2.1.length≤100000+(row.length - z.1) * 100001∧gx z.2.1) (fun z=>[(2,.fr (.sl ((row.take z.1).map xc))),(3,InD z.2.2)]) (fun z=>[(0,.ro 0 54 9 (z.2.1.map aU))]) (fun _=>_) (row.length,gA [] ns rw_ rw_.length,(gA [] ns rw_ rw_.length).length - 1) ⟨Nat.le_refl _,by dsimp only;rw[hg3];exact hg1,by dsimp only;rw[hg3,List.drop_length];exact hg2,by dsimp only;omega,hg5⟩ rfl (by dsimp only;rw[List.take_length];rfl) rfl ?_;clear hg1 hg2 hg3 hg4 hg5 hgl3 hRow hend hpos hBl hBi
    rintro G4 ⟨lv,ar,rt⟩ ih4 ⟨hlv,hwa,hden,hal,hdat⟩
    dsimp only at hlv hwa hden hal hdat ih4 ⊢
    by_cases hx4:0<lv
    ·have hlr:(row.take lv).length=lv:=by rw[List.length_take];omega
     have hlp:0<(row.take lv).length∧(row.take lv).length≤1000000:=by omega
     obtain⟨a,ha⟩:=exEq (row[lv - 1]);have hdl:(row.take lv).dropLast=row.take (lv - 1):=by rw[List.dropLast_eq_take,hlr,List.take_take,Nat.min_eq_left (by omega)]
     have hgl4:(row.take lv).getLastD (0,0)=a:=by
      have:row.take lv=row.take (lv - 1)++[a]:=by
       rw[ha,←List.take_succ_eq_append_getElem (by omega),show lv - 1+1=lv by omega]
      rw[this];simp
     have haok:=hab a (by rw[ha];exact List.getElem_mem _);obtain⟨a1,ha1⟩:∃a1:Nat,a.1=a1:=⟨a.1.toNat,by omega⟩
     obtain⟨a2,ha2⟩:∃a2:Nat,a.2=a2:=⟨a.2.toNat,by omega⟩
     have ha1l:a1<t.nodes.length:=by omega
     obtain⟨an,han⟩:=exEq (t.nodes[a1]);have hani:∀h:((a1:Nat):Int).toNat<t.nodes.length,t.nodes[((a1:Nat):Int).toNat]'h=an:=fun h=>by simp only[han,Int.toNat_natCast]
     have hach:ae t.nodes a.1=an.kids:=by rw[ha1,han];exact(aI (List.getElem?_eq_getElem ha1l)).symm
     have hanw:=(hw.nodes an (by rw[han];exact List.getElem_mem _)).kids.1;simp only[dS] at hanw;obtain⟨P,hP⟩:=exEq (row.take lv);rw[←hP] at hlr hlp hdl hgl4 ⊢
     repeat' first|exact k9|refine k2 ?_|apply kA|apply kI;intro hc|apply kL;intro hl|(apply Sn.go hX;conv=>whnf)|((simp only[hgl4,hdl])<;>conv=>whnf)|((simp only[ha1])<;>conv=>whnf)|((simp only[hani])<;>conv=>whnf)|refine k8 ?_|fail
     simp only[List.length_map];apply kCt [0,2,3,5,10,11,12,34,35,36] [6];conv=>whnf
     have hsa:szN t.nodes a.1=(an.kids.map (szN t.nodes)).sum+1:=by rw[wG hR.kok.ae (by omega) (by omega),hach]
     have hsb:szN t.nodes a.1≤t.nodes.length:=xm hR (by omega) (by omega);refine Lp.ind (fun z:Nat×List Nod×List Int=>an.kids.length - z.1) (fun z=>z.1≤an.kids.length∧UpI t.nodes z.2.1 a (rt:Int) (upF t.nodes (row.drop lv) (foT x)) z.2.2 z.1∧z.2.1.length+((an.kids.drop z.1).map (szN t.nodes)).sum≤ar.length+100000∧gx z.2.1) (fun z=>[(36,InD z.1)]) (fun z=>[(0,.ro 0 54 9 (z.2.1.map aU)),(4,.ro 0 3 1 ((z.2.2++List.replicate (an.kids.length - z.1) 0).map ikF))]) (fun _=>_) (0,ar,[]) ⟨Nat.zero_le _,Jj hwa hden haok.2.1,by dsimp only;rw[List.drop_zero];omega,hdat⟩ rfl rfl (by simp only[List.nil_append,Nat.sub_zero,List.map_replicate];rfl) ?_
     rintro G5 ⟨i,br,ks⟩ ih5 ⟨hi5,hU,hbl,hdb⟩
     dsimp only at hi5 hU hbl hdb ih5 ⊢;have hksl:=hU.len;have hfl5:(ks++List.replicate (an.kids.length - i) 0).length=an.kids.length:=by rw[List.length_append,List.length_replicate];omega
     by_cases hx5:i<an.kids.length
     ·have hset5:∀v:Int,((ks++List.replicate (an.kids.length - i) 0).map ikF).set i (ikF v)=(ks++[v]++List.replicate (an.kids.length - (i+1)) 0).map ikF:=fun v=>by
       rw[←List.map_set]
       congr 1
       rw[List.set_append_right _ _ (by omega),hksl,Nat.sub_self,show an.kids.length - i=(an.kids.length - (i+1))+1 by omega,List.replicate_succ,List.append_assoc];rfl
      have hkm:an.kids[i]∈an.kids:=List.getElem_mem hx5;have hko:=hR.kok.ae a.1 an.kids[i] (by rw[hach];exact hkm);obtain⟨q5,hq5⟩:∃q5:Nat,an.kids[i]=q5:=⟨an.kids[i].toNat,by omega⟩
      have hq5i:∀h:i<an.kids.length,an.kids[i]'h=(q5:Int):=fun _=>hq5
      have hach5:∀h:i<(ae t.nodes a.1).length,(ae t.nodes a.1)[i]'h=(q5:Int):=fun h=>by simp only[hach,hq5]
      rw[List.drop_eq_getElem_cons hx5,List.map_cons,List.sum_cons,hq5] at hbl;rw[hq5] at hko;obtain⟨KS,hKS⟩:=exEq (ks++List.replicate (an.kids.length - i) 0);rw[←hKS] at hfl5 hset5 ⊢
      by_cases hhit:(i:Int)=a.2
      ·repeat' first|exact k9|refine k2 ?_|apply kA|apply kI;intro hc|apply kL;intro hl|(apply Sn.go hX;conv=>whnf)|((simp only[hq5i])<;>conv=>whnf)|refine k8 ?_|fail
       apply kCt [0,2,3,5,10,11,12,34,35,36] [6];conv=>whnf
       refine ih5 (i+1,br,ks++[(rt:Int)]) _ _ _ (by dsimp only;omega) ⟨by dsimp only;omega,K0 hU hhit,by dsimp only;omega,hdb⟩ rfl rfl ?_;dsimp only;rw[←hset5];rfl
      ·repeat' first|exact k9|refine k2 ?_|apply kA|apply kI;intro hc|apply kL;intro hl|(apply Sn.go hX;conv=>whnf)|((simp only[hq5i])<;>conv=>whnf)|refine k8 ?_|fail
       obtain⟨ns,hns⟩:=exEq (t.nodes);have hk_:KOk ns:=by rw[hns];exact(hR).kok
       have hsz:szN ns (q5:Int)≤ns.length:=by rw[hns];exact xm hR (by omega) (by omega)
       have hnl:ns.length≤100000:=by rw[hns];exact htl
       have hnw:∀n∈ns,n.wf:=by rw[hns];exact(hw).nodes
       apply kCt [0,4,8,9] [2,3,5,6,10,11,12,34,35,36,50,51];conv=>whnf
       refine Lp.ind (fun z:Nat×List Int=>szN ns (q5:Int) - z.1) (fun z=>Bfs ns (q5:Int) z.1 z.2) (fun z=>[(9,InD z.1)]) (fun z=>[(2,.ro 0 3 1 (z.2.map ikF))]) (fun _=>_) (0,[(q5:Int)]) (Bfs.zero (by omega) (by rw[hns];omega)) rfl rfl rfl ?_
       rintro G1 ⟨i,rw_⟩ ih1 hB
       dsimp only at hB ih1 ⊢;have hBl:=hB.len hk_;have hBi:=hB.le
       by_cases hx1:i<rw_.length
       ·have hst:=hB.step hk_ hx1;have hsl:=hst.len hk_;have hm:=hB.mem _ (List.getElem_mem hx1);obtain⟨q,hq⟩:∃q:Nat,rw_[i]=q:=⟨rw_[i].toNat,by omega⟩
        rw[hq] at hm hst hsl;have hql:q<ns.length:=by omega
        have hqi:∀h:i<rw_.length,rw_[i]'h=(q:Int):=fun _=>hq
        have hch:ae ns (q:Int)=ns[q].kids:=(aI (List.getElem?_eq_getElem hql)).symm;rw[hch] at hst hsl;subst hns;simp only[List.length_append] at hsl
        repeat' first|exact k9|refine k2 ?_|apply kA|apply kI;intro hc|apply kL;intro hl|(apply Sn.go hX;conv=>whnf)|((simp only[hqi])<;>conv=>whnf)|refine k8 ?_|fail
        apply kCt [0,4,8,9] [2,3,5,6,10,11,12,34,35,36,50,51];conv=>whnf
        refine ih1 (i+1,rw_++t.nodes[q].kids) _ _ _ (by dsimp only;omega) hst rfl rfl ?_;dsimp only;rw[List.map_append];rfl
       obtain rfl:i=rw_.length:=by omega
       have hRow:Row ns (q5:Int) rw_:=⟨hB⟩
       have hpos:=hRow.pos;have hend:=hRow.end_;clear ih1
       repeat' first|exact k9|refine k2 ?_|apply kA|apply kI;intro hc|(apply Sn.go hX;conv=>whnf)|refine k8 ?_|apply kL;intro hl
       apply kCt [0,4,8,10,11] [2,3,5,6,10,11,12,34,35,36,50,51];conv=>whnf
       refine Lp.ind (fun m:Nat=>rw_.length - m) (fun m=>m≤rw_.length) (fun m=>[(11,InD (((rw_.length:Nat):Int) - 1 - (m:Int))),(10,InD (bE ns rw_ (rw_.length - m)))]) (fun m=>[(0,.ro 0 54 9 ((gA br ns rw_ m).map aU))]) (fun _=>_) 0 (Nat.zero_le _) rfl (by rw[Nat.sub_zero,hend];simp only[List.length_map,Int.natCast_zero,Int.sub_zero];rfl) (by simp only[gA,List.range_zero,List.map_nil,List.append_nil];rfl) ?_
       rintro G2 m ih2 hmr
       have hgl:=vZ br ns rw_ m
       by_cases hx2:m<rw_.length
       ·obtain⟨pp,hpp⟩:=exEq (rw_.length - 1 - m);have hppl:pp<rw_.length:=by omega
        have hpi:((rw_.length:Nat):Int) - 1 - (m:Int)=(pp:Int):=by omega
        have hpe:rw_.length - m=pp+1:=by omega
        have hsu:=rJ br ns rw_ m;rw[←hpp] at hsu;have hE:=rI (ns:=ns) hppl;have hEm:=wm (ns:=ns) (p:=pp+1) (q:=rw_.length) (by omega) (Nat.le_refl _);rw[hend] at hEm;have hmm:=hB.mem _ (List.getElem_mem hppl);obtain⟨q,hq⟩:∃q:Nat,rw_[pp]=q:=⟨rw_[pp].toNat,by omega⟩
        rw[hq] at hmm;have hqi:∀h:pp<rw_.length,rw_[pp]'h=(q:Int):=fun _=>hq
        have hql:q<ns.length:=by omega
        have hgd:rw_.getD pp 0=(q:Int):=(lQ hppl).trans hq;have hch:ae ns (q:Int)=ns[q].kids:=(aI (List.getElem?_eq_getElem hql)).symm;rw[hgd,hch] at hE;rw[hE] at hEm;obtain⟨nn,hnn⟩:=exEq (ns[q]);rw[←hnn] at hE hEm hch;have hnq:ns.getD (rw_.getD pp 0).toNat .zero=nn:=by rw[hgd,Int.toNat_natCast,hnn];simp[List.getD_eq_getElem?_getD,hql]
        obtain⟨gk,hgk⟩:=exEq (dw ns rw_ br.length pp);have hgkl:gk.length=nn.kids.length:=by rw[hgk,dw,List.length_map,List.length_range,hgd,hch]
        have hgka:∀(j:Nat) (h:j<gk.length),gk[j]=((br.length+rw_.length:Nat):Int) - 1 - ((bE ns rw_ pp+j:Nat):Int):=fun j h=>by simp only[hgk,dw,List.getElem_map,List.getElem_range]
        have hgn:gN ns rw_ br.length pp={ nn with kids:=gk }:=by rw[gN,hnq,hgk]
        obtain⟨A,hA⟩:=exEq (gA br ns rw_ m);rw[←hA] at hgl hsu ⊢;obtain⟨Ep,hEp⟩:=exEq (bE ns rw_ pp);rw[hpi,hpe,hE];rw[←hEp] at hgka hE hEm ⊢;have hnr:ns.length=t.nodes.length:=by rw[hns]
        have hkq:=(hnw _ (List.getElem_mem hql)).kids.1;simp only[dS] at hkq;rw[←hnn] at hkq;have hnsq:∀h:((q:Nat):Int).toNat<t.nodes.length,t.nodes[((q:Nat):Int).toNat]'h=nn:=fun h=>by simp only[hnn,hns,Int.toNat_natCast]
        have hARb:br.length≤1000000000000:=(by omega)
        rw[hgn] at hsu
        repeat' first|exact k9|refine k2 ?_|apply kA|apply kI;intro hc|apply kL;intro hl|(apply Sn.go hX;conv=>whnf)|((simp only[hqi])<;>conv=>whnf)|((simp only[hnsq])<;>conv=>whnf)|refine k8 ?_|fail
        simp only[List.length_replicate,List.length_map];rw[show(((Ep+nn.kids.length:Nat):Int) - ((nn.kids.length:Nat):Int))=(Ep:Int) by omega];apply kCt [0,4,8,10,11,12,13,60,61] [2,3,5,6,10,11,12,34,35,36,50,51];conv=>whnf
        refine Lp.ind (fun j:Nat=>nn.kids.length - j) (fun j=>j≤nn.kids.length) (fun j=>[(61,InD j)]) (fun j=>[(4,.ro 0 3 1 ((gk.take j++List.replicate (nn.kids.length - j) 0).map ikF))]) (fun _=>_) 0 (Nat.zero_le _) rfl rfl (by simp only[List.take_zero,List.nil_append,Nat.sub_zero,List.map_replicate];rfl) ?_
        rintro G3 j ih3 hj
        have hfl:(gk.take j++List.replicate (nn.kids.length - j) 0).length=nn.kids.length:=by rw[List.length_append,List.length_take,List.length_replicate];omega
        by_cases hx3:j<nn.kids.length
        ·have hval:=hgka j (by omega);have hstep:((gk.take j++List.replicate (nn.kids.length - j) 0).map ikF).set j (ikF gk[j])=(gk.take (j+1)++List.replicate (nn.kids.length - (j+1)) 0).map ikF:=by
          rw[←List.map_set]
          congr 1
          rw[List.set_append_right _ _ (by rw[List.length_take];omega),List.length_take,show j - min j gk.length=0 by omega,List.take_succ_eq_append_getElem (by omega),show nn.kids.length - j=(nn.kids.length - (j+1))+1 by omega,List.replicate_succ,List.append_assoc];rfl
         obtain⟨X,hX⟩:=exEq (gk.take j++List.replicate (nn.kids.length - j) 0);rw[←hX] at hfl hstep ⊢;have hvv:(((A.map aU).length:Nat):Int)+(pp:Int) - ((Ep:Int)+(j:Int))=gk[j]:=by rw[List.length_map,hval];omega
         repeat' first|exact k9|refine k2 ?_|apply kA|apply kI;intro hc|(apply Sn.go hX;conv=>whnf)|refine k8 ?_|apply kL;intro hl
         rw[hvv];apply kCt [0,4,8,10,11,12,13,60,61] [2,3,5,6,10,11,12,34,35,36,50,51];conv=>whnf
         refine ih3 (j+1) _ _ _ (by omega) (by omega) rfl rfl ?_;rw[←hstep];rfl
        obtain rfl:j=nn.kids.length:=by omega
        rw[Nat.sub_self,List.replicate_zero,List.append_nil,List.take_of_length_le (by omega)];clear ih3
        repeat' first|exact k9|refine k2 ?_|apply kA|apply kI;intro hc|(apply Sn.go hX;conv=>whnf)|refine k8 ?_|apply kL;intro hl
        apply kCt [0,4,8,10,11] [2,3,5,6,10,11,12,34,35,36,50,51];conv=>whnf
        refine ih2 (m+1) _ _ _ (by omega) (by omega) rfl ?_ ?_
        ·rw[show((rw_.length:Nat):Int) - 1 - ((m+1:Nat):Int)=(pp:Int) - 1 by omega,show rw_.length - (m+1)=pp by omega,←hEp];rfl
        ·rw[hsu,List.map_append];rfl
       obtain rfl:m=rw_.length:=by omega
       subst hns;have hrs:rw_.length=szN t.nodes (q5:Int):=by have:=hRow.b.sum;rw[List.drop_length] at this;simpa using this
       have hg6:=KK hR hU hhit (by rw[hach];exact hx5) (row:=rw_) (by rw[hach5];exact hRow);have hg7:(((List.map aU (gA br t.nodes rw_ rw_.length)).length:Nat):Int) - 1=(((gA br t.nodes rw_ rw_.length).length:Nat):Int) - 1:=by rw[List.length_map]
       clear ih2 hB
       repeat' first|exact k9|refine k2 ?_|apply kA|apply kI;intro hc|(apply Sn.go hX;conv=>whnf)|refine k8 ?_|apply kL;intro hl
       rw[hg7];apply kCt [0,2,3,5,10,11,12,34,35,36] [6];conv=>whnf
       refine ih5 (i+1,gA br t.nodes rw_ rw_.length,ks++[(((gA br t.nodes rw_ rw_.length).length:Nat):Int) - 1]) _ _ _ (by dsimp only;omega) ⟨by dsimp only;omega,hg6,by dsimp only;omega,gx.gA hdb hw.nodes⟩ rfl rfl ?_;dsimp only;rw[←hset5];rfl
     ·obtain rfl:i=an.kids.length:=by omega
      rw[Nat.sub_self,List.replicate_zero,List.append_nil];rw[List.drop_length] at hbl;simp only[List.map_nil,List.sum_nil,Nat.add_zero] at hbl;have hU2:UpI t.nodes br a (rt:Int) (upF t.nodes (row.drop lv) (foT x)) ks (ae t.nodes a.1).length:=by rw[hach];exact hU
      obtain⟨hw6,hd6⟩:=Jp hR (by rw[hach] at haok ⊢;exact haok) hU2 an (by rw[ha1,Int.toNat_natCast,han];simp[List.getD_eq_getElem?_getD,ha1l]);have hup:upS t.nodes a (upF t.nodes (row.drop lv) (foT x))=upF t.nodes (row.drop (lv - 1)) (foT x):=by
       rw[List.drop_eq_getElem_cons (show lv - 1<row.length by omega),←ha,show lv - 1+1=lv by omega];rfl
      rw[hup] at hd6;clear ih5
      repeat' first|exact k9|refine k2 ?_|apply kA|apply kI;intro hc|(apply Sn.go hX;conv=>whnf)|refine k8 ?_|apply kL;intro hl
      simp only[List.length_append,List.length_map,List.length_cons,List.length_nil];rw[show(((br.length+(0+1):Nat):Int) - 1)=(br.length:Int) by omega];apply kCt [0,2,3,5] [6];conv=>whnf
      refine ih4 (lv - 1,br++[{ an with kids:=ks }],br.length) _ _ _ (by dsimp only;omega) ⟨by dsimp only;omega,hw6,hd6,by simp only[List.length_append,List.length_cons,List.length_nil];omega,gx.app hdb fun n hn=>by
       simp only[List.mem_singleton] at hn;subst hn;refine⟨(hw.nodes an (by rw[han];exact List.getElem_mem _)).wf0,?_⟩;simp only[hksl,dS];omega⟩ rfl rfl ?_
      dsimp only;rw[List.map_append];rfl
    ·obtain rfl:lv=0:=by omega
     have hwf:(⟨ar,(rt:Int)⟩:Tre).wf:=⟨by simp only[ca];omega,hdat.wf hwa.ok (by simp only[ca];omega),by have:=hwa.rng (rt:Int) (by simp);unfold Go.Sl.I64;dsimp only;omega⟩
     have hmk:=E1 hwa hden;rw[List.drop_zero] at hmk
     repeat' first|exact k9|refine k2 ?_|apply kA|apply kI;intro hc|(apply Sn.go hX;conv=>whnf)|((refine fe.i (MD ⟨ar,(rt:Int)⟩) hwf ?_)<;>conv=>whnf)|refine k8 ?_|apply kL;intro hl
     rw[hmk];exact ao.i rfl⟩
end Go.Km
end
section
namespace Go.Proofs.YtoklkjkmbfebjaaGreatDoor
open Go Go.Sl Go.RowKit
theorem zi:Tryz.prog.underlying 25=some (.slice 3):=by kernel_rfl
set_option maxHeartbeats 4000000 in
set_option maxRecDepth 100000 in
theorem BD(A:Option Addr)(c:Nat)(w:World) :
  Calls Tryz.prog 105 #[.slice A 0 c] w fun e w'=>(∃A' c',e=.returned (.slice A' 0 c'))∧Below w.heap.size w w':=by
 have heq:∀W,(binOp .eql 25 (.slice A 0 c) (.slice none 0 0)).run Tryz.prog W=.ok (.bool A.isNone) W:=by
  intro W;have h1:(Op.equal 25 (.slice A 0 c) (.slice none 0 0)).run Tryz.prog W=.ok A.isNone W:=by
   show(Op.equalIn (9999+1) _ _ _).run Tryz.prog W=_
   rw[Op.equalIn]
   cases A<;>simp[run_underlying zi]
  have h2:binOp .eql 25 (.slice A 0 c) (.slice none 0 0)=(do pure (.bool (←Op.equal 25 (.slice A 0 c) (.slice none 0 0)))):=rfl;rw[h2];simp[h1]
 cases A with
 | none=>
  go_enter Tryz.func105,Tryz.ntmps105
  go_wp2
  go_ret
  exact⟨⟨_,_,rfl⟩,Below.refl _ _⟩
 | some a=>
  have hb:∀W:World,(Instr.buildSlice 25 0 #[]).run Tryz.prog W=.ok (.slice (some ⟨W.heap.size,0,none⟩) 0 0) (W.alloc (.cells #[] 3)):=fun W=>by
   have ht:SlT Tryz.prog 25 3 _ _ _:=inferInstance;obtain⟨i,i1,i2,i3,i4⟩:=ht.info;simp[Instr.buildSlice,run_underlying zi,sizeOf,typeInfo,i1,i3,zeroValue,i2,newRow,iV,Instr.fill,show Array.range 0=#[] from rfl]
  go_enter Tryz.func105,Tryz.ntmps105
  go_wp2
  go_ret
  exact⟨⟨_,_,rfl⟩,(Below.refl _ _).alloc (Nat.le_refl _) _⟩
end Go.Proofs.YtoklkjkmbfebjaaGreatDoor
namespace Go.Km
open Go Go.Vc Go.Proofs Go.aa Go.Proofs.YtoklkjkmbfebjaaGreatDoor
set_option maxRecDepth 100000
set_option maxHeartbeats 0
theorem xX:Pure Tryz.prog X1.Γ 105 [.sl []] (.sl []) false:=
 ⟨inferInstance,fun Z w vs hZ hG hr=>by
  unfold F.ah F.rep at hr;obtain⟨u,us,rfl,⟨A,c,vr,sz,rfl,_,har,_,hr2⟩,hus⟩:=hr;unfold F.ah at hus;subst hus;refine(BD A c w).mono fun e w' ⟨⟨A',c',h1⟩,h2⟩=>⟨_,h1,h2,?_⟩
  unfold F.rep;exact⟨A',c',[],sz,rfl,Nat.zero_le _,⟨rfl,by simp,fun h=>absurd h (by simp)⟩,by simp,by unfold F.aG;rfl⟩⟩
instance(l:List Int):C 105 [isF l] (isF l) false (l.length≤17592186044416):=⟨fun h=>by
 cases l with
 | nil=>exact xX
 | cons a l=>
  obtain⟨L,hL⟩:=exEq (a :: l);rw[←hL] at h ⊢;have h0:0<(L.map ikF).length:=by rw[hL];simp
  refine kf rfl rfl ?_;repeat' first|exact k9|refine k2 ?_|apply kA|apply kI;intro hc|(apply Sn.go hX;conv=>whnf)|refine k8 ?_|apply kL;intro hl
  exact ao.i (by simp)⟩
theorem zN{α:Type}(f:α→List F)(l:List α)(i:Nat)(h:i<l.length):(l.map f).set i (f l[i])=l.map f:=by
 rw[←List.map_set,List.set_getElem_self]
instance(t:Tre):C 88 [az t] (az t) false (t.wf∧0<t.nodes.length):=⟨fun ⟨ht,h0⟩=>by
 have hl:=ht.len;simp only[ca] at hl;have h0:0<(t.nodes.map aU).length:=by simpa using h0
 have hX:=u4 [104] [];refine iL hX rfl rfl ?_;repeat' first|exact k9|refine k2 ?_|apply kA|apply kI;intro hc|(apply Sn.go hX;conv=>whnf)|refine k8 ?_|apply kL;intro hl
 rw[List.nil_append];apply kCt [1,2,10,11,12] [];conv=>whnf
 refine Lp.ind (fun z:Nat=>t.nodes.length - z) (fun z=>z≤t.nodes.length) (fun z=>[(12,InD z)]) (fun _=>[]) (fun _=>_) 0 (Nat.zero_le _) rfl rfl rfl ?_
 rintro G i ih hi
 by_cases hx:i<t.nodes.length
 ·have hw:=(ht.nodes _ (List.getElem_mem hx)).kids.1;simp only[dS] at hw;apply Sn.go hX;repeat' first|exact k9|refine k2 ?_|apply kA|apply kI;intro hc|(apply Sn.go hX;conv=>whnf)|refine k8 ?_|apply kL;intro hl
  apply kCt [1,2,10,11,12] [];conv=>whnf
  refine ih (i+1) _ _ _ (by omega) (by omega) rfl rfl ?_;exact congrArg (fun z=>iW [(1,B.ro 0 54 9 z)] G.h) (zN aU t.nodes i hx)
 ·apply Sn.go hX;repeat' (first|exact k9|refine k2 ?_|apply kA|apply kI;intro hc|(apply Sn.go hX;conv=>whnf)|refine k8 ?_|apply kL;intro hl)⟩
def mL(g:List Dfn)(r:Int)(t:Tre):List Dfn×Bool:=if h:0≤r∧r<g.length then (g.set r.toNat { g[r.toNat]'(by omega) with body:=t },true) else ([],false)
instance(g:List Dfn)(r:Int)(t:Tre):C 65 [bC g,inF r,az t] (.tp [bC (mL g r t).1,boF (mL g r t).2]) false (g.length≤1000∧0<g.length∧(∀d∈g,d.wf∧0<d.body.nodes.length)∧t.wf∧0<t.nodes.length):=⟨fun ⟨hn,h0,hw,ht,ht0⟩=>by
 have h0:0<(g.map sN).length:=by simpa using h0
 have hX:=u4 [103,87] [];refine iL hX rfl rfl ?_;repeat' first|exact k9|refine k2 ?_|apply kA|apply kI;intro hc|(apply Sn.go hX;conv=>whnf)|refine k8 ?_|apply kL;intro hl
 ·exact ao.i (by rw[mL,dif_neg (by omega)];rfl)
 ·exact ao.i (by rw[mL,dif_neg (by omega)];rfl)
 ·rename_i hr0;rw[List.nil_append];apply kCt [1,2,10,11,12] [1,3,5,6,18];conv=>whnf
  refine Lp.ind (fun z:Nat=>g.length - z) (fun z=>z≤g.length) (fun z=>[(12,InD z)]) (fun _=>[]) (fun _=>_) 0 (Nat.zero_le _) rfl rfl rfl ?_
  rintro G i ih hi
  by_cases hx:i<g.length
  ·obtain⟨hwi,h0i⟩:=hw _ (List.getElem_mem hx);have hwb:=hwi.body;have hp:g[i].body.wf∧0<g[i].body.nodes.length:=⟨hwb,h0i⟩
   apply Sn.go hX;repeat' first|exact k9|refine k2 ?_|apply kA|apply kI;intro hc|(apply Sn.go hX;conv=>whnf)|refine k8 ?_|apply kL;intro hl
   apply kCt [1,2,10,11,12] [1,3,5,6,18];conv=>whnf
   refine ih (i+1) _ _ _ (by omega) (by omega) rfl rfl ?_;exact congrArg (fun z=>iW [(1,B.ro 0 49 3 z)] G.h) (zN sN g i hx)
  ·have hp:t.wf∧0<t.nodes.length:=⟨ht,ht0⟩
   apply Sn.go hX;repeat' first|exact k9|refine k2 ?_|apply kA|apply kI;intro hc|(apply Sn.go hX;conv=>whnf)|refine k8 ?_|apply kL;intro hl
   refine ao.i ?_;rw[mL,dif_pos (by omega)];dsimp only;rw[bC,List.map_set];rfl⟩
end Go.Km
end
section
namespace Go.aa
open Go Go.Km
def bR(g:List Dfn)(r:Int)(p:List Int):Tre×Bool:=if h:0≤r∧r<g.length then mY (g[r.toNat]'(by omega)).body p else (.zero,false)
def cb(g:List Dfn)(r:Int)(p:List Int)(x:Tre):List Dfn×Bool:=if h:0≤r∧r<g.length then (if (ff (g[r.toNat]'(by omega)).body p x).2=true then mL g r (ff (g[r.toNat]'(by omega)).body p x).1 else ([],false)) else ([],false)
theorem Fo.sO:∀(i:Nat) (G F:Fo),(Fo.setAt i G F).size≤F.size+G.size
 | i,G,.nil=>by cases i<;>simp[Fo.setAt,Fo.size]
 | 0,G,.cons n k r=>by simp only[Fo.setAt,Fo.fY,Fo.size];omega
 | i+1,G,.cons n k r=>by
  have:=Fo.sO i G r;simp only[Fo.setAt,Fo.size];omega
theorem Fo.vu:∀(i:Nat) {G F:Fo},G.dwf→F.dwf→(Fo.setAt i G F).dwf
 | i,G,.nil,h,k=>by cases i<;>exact k
 | 0,G,.cons n a r,h,k=>(Fo.oD _ _).2 ⟨h,k.2.2⟩
 | i+1,G,.cons n a r,h,k=>⟨k.1,k.2.1,Fo.vu i h k.2.2⟩
theorem HH{t:Tre}(hR:aC t){a:Int×Int}(h0:0≤a.1)(h1:a.1<t.nodes.length)(F:Fo):(upS t.nodes a F).size≤t.nodes.length+F.size:=by
 have h2:=xm hR h0 h1;rw[szN,fJ hR.kok.ae h0 h1,Fo.size] at h2;have h3:=Fo.sO a.2.toNat F (aE t.nodes t.nodes.length (ae t.nodes a.1));simp only[Fo.size] at h2;simp only[upS,Fo.size];omega
theorem yG{t:Tre}(hR:aC t)(X:Fo):∀row:List (Int×Int),F6 t.nodes row→(upF t.nodes row X).size≤row.length * t.nodes.length+X.size
 | [],_=>by simp[upF]
 | a :: row,h=>by
  have h1:=h a (by simp);have h2:=HH hR h1.1.1 h1.1.2 (upF t.nodes row X);have h3:=yG hR X row fun b hb=>h b (by simp[hb])
  show(upS t.nodes a (upF t.nodes row X)).size≤_
  rw[List.length_cons,Nat.add_mul];omega
theorem Mb{ns:List Nod}(hn:∀n∈ns,n.wf)(k:Int):(dat ns k).wf:=by
 rw[dat,List.getD_eq_getElem?_getD]
 cases e:ns[k.toNat]? with
 | none=>exact Nod.a7
 | some n=>exact(hn n (List.mem_of_getElem? e)).wf0
theorem Ds{ns:List Nod}(hn:∀n∈ns,n.wf){X:Fo}(hX:X.dwf):∀row:List (Int×Int),(upF ns row X).dwf
 | []=>hX
 | a :: row=>⟨Mb hn _,Fo.vu _ (Ds hn hX row) (kX hn _ _),trivial⟩
theorem J0{ns:List Nod}{X:Fo}(hX:X.len=1):∀row:List (Int×Int),(upF ns row X).len=1
 | []=>hX
 | a :: row=>rfl
theorem yF{t x:Tre}{p:List Int}(ht:t.wf)(hx:x.wf)(hl:t.nodes.length≤100000)(hl2:x.nodes.length≤100000)(hp:p.length≤1000000)(h:(ff t p x).2=true):(ff t p x).1.wf∧0<(ff t p x).1.nodes.length:=by
 unfold ff at h ⊢
 split at h
 ·rename_i hr;rw[Bool.and_eq_true] at hr;have hR:=aq hr.1;have hRx:=aq hr.2
  split at h
  ·rename_i row k hd;obtain⟨hab,_,_,hrl⟩:=kU hR.kok.ae p t.root hR.root.1 hR.root.2 row k hd;rw[if_pos (by rw[hr.1,hr.2];rfl)];simp only[hd];have hs:=yG hR (foT x) row hab;have hm:row.length * t.nodes.length≤1000000 * 100000:=Nat.mul_le_mul (by omega) hl;rw[gF hRx] at hs;have hsn:=Fo.jd (upF t.nodes row (foT x));refine⟨rm (Fo.pq (Ds ht.nodes (kX hx.nodes _ _) row)) (by unfold ca;omega),?_⟩;rw[zt];have h1:=Fo.w9 (upF t.nodes row (foT x)).norm;rw[Fo.oZ,J0 (xx hr.2).2] at h1;exact h1
  ·cases h
 ·cases h
end Go.aa
namespace Go.Km
open Go Go.Vc Go.Proofs Go.aa Go.Proofs.YtoklkjkmbfebjaaGreatDoor
set_option maxRecDepth 100000
set_option maxHeartbeats 0
instance(g:List Dfn)(r:Int)(p:List Int):C 42 [bC g,.ag [inF r,isF p]] (.tp [az (bR g r p).1,boF (bR g r p).2]) false (g.length≤1000∧(∀d∈g,d.wf)∧p.length≤1000000):=⟨fun ⟨hn,hw,hp⟩=>by
 by_cases hr:0≤r∧r<g.length
 ·obtain⟨q,rfl⟩:∃q:Nat,r=q:=⟨r.toNat,by omega⟩
  have hql:q<g.length:=by omega
  have hpre:g[q].body.wf∧p.length≤1000000:=⟨(hw _ (List.getElem_mem hql)).body,hp⟩
  have e:bR g (q:Int) p=mY g[q].body p:=by rw[bR,dif_pos hr];rfl
  rw[e];refine kf rfl rfl ?_;repeat' first|exact k9|refine k2 ?_|apply kA|apply kI;intro hc|(apply Sn.go hX;conv=>whnf)|refine k8 ?_|apply kL;intro hl
 ·have e:bR g r p=(.zero,false):=by rw[bR,dif_neg hr]
  rw[e];refine kf rfl rfl ?_;repeat' first|exact k9|refine k2 ?_|apply kA|apply kI;intro hc|(apply Sn.go hX;conv=>whnf)|refine k8 ?_|apply kL;intro hl
  all_goals exact ao.i rfl⟩
instance(g:List Dfn)(r:Int)(p:List Int)(x:Tre):C 46 [bC g,.ag [inF r,isF p],az x] (.tp [bC (cb g r p x).1,boF (cb g r p x).2]) false (g.length≤1000∧(∀d∈g,d.wf∧0<d.body.nodes.length∧d.body.nodes.length≤100000)∧p.length≤1000000∧x.wf∧x.nodes.length≤100000):=⟨fun ⟨hn,hw,hp,hx,hxl⟩=>by
 by_cases hr:0≤r∧r<g.length
 ·obtain⟨q,rfl⟩:∃q:Nat,r=q:=⟨r.toNat,by omega⟩
  have hql:q<g.length:=by omega
  obtain⟨hwq,hq0,hql2⟩:=hw _ (List.getElem_mem hql);have hpre:g[q].body.wf∧x.wf∧g[q].body.nodes.length≤100000∧x.nodes.length≤100000∧p.length≤1000000:=⟨hwq.body,hx,hql2,hxl,hp⟩
  have e:cb g (q:Int) p x=if (ff g[q].body p x).2=true then mL g (q:Int) (ff g[q].body p x).1 else ([],false):=by rw[cb,dif_pos hr];rfl
  refine kf rfl rfl ?_;repeat' first|exact k9|refine k2 ?_|apply kA|apply kI;intro hc|(apply Sn.go hX;conv=>whnf)|refine k8 ?_|apply kL;intro hl
  ·obtain⟨h1,h2⟩:=yF hwq.body hx hql2 hxl hp hc;exact⟨hn,by omega,fun d hd=>⟨(hw d hd).1,(hw d hd).2.1⟩,h1,h2⟩
  ·rw[e,if_pos hc];exact ao.i rfl
  ·rw[e,if_neg (by rw[hc];decide)];exact ao.i rfl
 ·have e:cb g r p x=([],false):=by rw[cb,dif_neg hr]
  rw[e];refine kf rfl rfl ?_;repeat' first|exact k9|refine k2 ?_|apply kA|apply kI;intro hc|(apply Sn.go hX;conv=>whnf)|refine k8 ?_|apply kL;intro hl
  all_goals exact ao.i rfl⟩
end Go.Km
end
section
namespace Go.aa
open Go Go.Km
structure Cnt where
 of:Tre
 least:Int
 dW:Int
def yq(t:Tre):Tre:=(cA t).headD .zero
def a8(t:Tre):Cnt:=if (a9 t).kind=6 then ⟨yq t,(a9 t).min,(a9 t).max⟩ else ⟨t,1,1⟩
def eC(t u:Int):Int×Bool:=if t=-1∨u=-1 then (-1,true) else (t+u,decide (t+u≤99))
def JE(lo hi:Int):Nod:=⟨6,.zero,⟨#[]⟩,lo,hi,[]⟩
def Bw(lo hi:Int)(t:Tre):Tre×Bool:=iz (JE lo hi) [t]
def isC(c:Cnt)(lo hi:Int):Bool:=decide (c.least=lo)&&decide (c.dW=hi)
def MR(c:Cnt):Tre×Bool:=(c.of,isC c 1 1)
def Mn(c:Cnt):Tre×Bool:=(oP dU,isC c 0 0)
def jH(c:Cnt):Tre×Bool:=if 1<c.least∨c.dW=0∨(a9 c.of).kind≠6 then (.zero,false) else if isC (a8 c.of) 1 (-1)=true then Bw c.least (-1) (a8 c.of).of else (.zero,false)
def kG(c:Cnt):Tre×Bool:=if isC c 0 1=false∨(a9 c.of).kind≠6 then (.zero,false) else if 1<(a8 c.of).least then (.zero,false) else Bw 0 (a8 c.of).dW (a8 c.of).of
def ig(a b:Tre):Tre×Bool:=if ((a8 b).least≠0∧(a8 a).least≠(a8 a).dW)∨zK (a8 a).of (a8 b).of=false then (.zero,false) else if (eC (a8 a).least (a8 b).least).2=true∧(eC (a8 a).dW (a8 b).dW).2=true then Bw (eC (a8 a).least (a8 b).least).1 (eC (a8 a).dW (a8 b).dW).1 (a8 a).of else (.zero,false)
def mw(a b:Tre):Tre×Bool:=if (a9 a).kind=2∧(a9 b).kind=2∧(a9 a).text.size+(a9 b).text.size≤255 then (oP ⟨2,.zero,(a9 a).text++(a9 b).text,0,0,[]⟩,true) else (.zero,false)
structure Cnt.wf(c:Cnt):Prop where
 of:c.of.wf
 len:c.of.nodes.length≤100000
 least:0≤c.least∧c.least≤1000
 dW:-1≤c.dW∧c.dW≤1000
theorem sr{t:Tre}(h:(a9 t).kind=6):au t=true∧(cA t).length=1∧(0≤(a9 t).min∧(a9 t).min≤99)∧(-1≤(a9 t).max∧(a9 t).max≤99):=by
 cases hr:au t with
 | false=>
  rw[a9,if_neg (by rw[hr];decide)] at h
  cases h
 | true=>
  obtain⟨F,h1,h2,h3,h4,h5⟩:=Ei hr;refine⟨rfl,?_,?_⟩
  ·rw[h5,Fo.jg];have:=(l7 h4).2.1 (by omega);omega
  ·unfold fits at h4;rw[if_neg (by omega),if_neg (by omega),if_neg (by omega),if_neg (by omega),if_neg (by omega),if_pos h] at h4;simp only[Bool.and_eq_true,Bool.or_eq_true,decide_eq_true_eq] at h4;omega
theorem eu{t:Tre}(ht:t.wf)(hl:t.nodes.length≤100000):(a8 t).wf:=by
 unfold a8
 split
 ·rename_i h;obtain⟨h1,h2,h3,h4⟩:=sr h;have hm:yq t∈cA t:=by
   rw[yq]
   cases e:cA t with
   | nil=>rw[e] at h2;cases h2
   | cons a l=>simp
  have:=nT hm;have:=(qb t).1;exact⟨x9 ht _ hm,by dsimp only;omega,by dsimp only;omega,by dsimp only;omega⟩
 ·exact⟨ht,hl,by dsimp only;omega,by dsimp only;omega⟩
theorem mh{lo hi:Int}(h:-1000000≤lo∧lo≤1000000)(k:-1000000≤hi∧hi≤1000000):(⟨6,.zero,⟨#[]⟩,lo,hi,[]⟩:Nod).wf:=⟨by dsimp only;omega,by unfold Bts.wf Bts.zero;dsimp only;omega,Nat.zero_le _,by unfold Go.Sl.I64;dsimp only;omega,by unfold Go.Sl.I64;dsimp only;omega,⟨Nat.zero_le _,fun x hx=>by cases hx⟩⟩
end Go.aa
namespace Go.Km
open Go Go.Vc Go.Proofs Go.aa Go.Proofs.YtoklkjkmbfebjaaGreatDoor
set_option maxRecDepth 100000
set_option maxHeartbeats 0
abbrev Es(c:Cnt):F:=.ag [.sl (c.of.nodes.map aU),inF c.of.root,inF c.least,inF c.dW]
instance(t u:Int):C 58 [inF t,inF u] (.tp [inF (eC t u).1,boF (eC t u).2]) true (-1000000≤t∧t≤1000000∧-1000000≤u∧u≤1000000):=⟨fun h=>by
 by_cases e:t=-1∨u=-1
 ·have hp:eC t u=(-1,true):=by rw[eC,if_pos e]
  rw[hp];refine kf rfl rfl ?_;repeat' first|exact k9|refine k2 ?_|apply kA|apply kI;intro hc|refine k8 ?_|apply kL;intro hl
 ·have hp:eC t u=(t+u,decide (t+u≤99)):=by rw[eC,if_neg e]
  rw[hp];refine kf rfl rfl ?_;repeat' first|exact k9|refine k2 ?_|apply kA|apply kI;intro hc|refine k8 ?_|apply kL;intro hl
  exact ao.j (by rw[dt]) rfl⟩
instance(c:Cnt)(lo hi:Int):C 35 [Es c,inF lo,inF hi] (boF (isC c lo hi)) true True:=⟨fun _=>by
 refine kf rfl rfl ?_;repeat' first|exact k9|refine k2 ?_|apply kA|apply kI;intro hc|refine k8 ?_|apply kL;intro hl
 ·exact ao.b (by rw[isC,dd,decide_eq_true hc,Bool.true_and]) rfl
 ·exact ao.b (by rw[isC,decide_eq_false hc,Bool.false_and]) rfl⟩
theorem Ch{t:Tre}(h:0<(cA t).length):(cA t)[0]=yq t:=by
 rw[yq,List.headD_eq_head?_getD,List.head?_eq_getElem?,List.getElem?_eq_getElem h];rfl
instance(t:Tre):C 57 [az t] (Es (a8 t)) false t.wf:=⟨fun ht=>by
 by_cases h6:(a9 t).kind=6
 ·have e:a8 t=⟨yq t,(a9 t).min,(a9 t).max⟩:=by rw[a8,if_pos h6]
  have hk:=(sr h6).2.1;have hk0:∀h:0<(cA t).length,(cA t)[0]'h=yq t:=fun h=>Ch h
  rw[e];refine kf rfl rfl ?_;repeat' first|exact k9|refine k2 ?_|apply kA|apply kI;intro hc|apply kL;intro hl|((simp only[hk0])<;>conv=>whnf)|refine k8 ?_|fail
  all_goals exact ao.i rfl
 ·have e:a8 t=⟨t,1,1⟩:=by rw[a8,if_neg h6]
  rw[e];refine kf rfl rfl ?_;repeat' (first|exact k9|refine k2 ?_|apply kA|apply kI;intro hc|refine k8 ?_|apply kL;intro hl)⟩
instance(c:Cnt):C 34 [Es c] (t2F (MR c)) false True:=⟨fun _=>by
 refine kf rfl rfl ?_;repeat' first|exact k9|refine k2 ?_|apply kA|apply kI;intro hc|refine k8 ?_|apply kL;intro hl
 exact ao.i rfl⟩
instance(c:Cnt):C 36 [Es c] (t2F (Mn c)) false True:=⟨fun _=>by
 refine kf rfl rfl ?_;repeat' first|exact k9|refine k2 ?_|apply kA|apply kI;intro hc|refine k8 ?_|apply kL;intro hl
 exact ao.i rfl⟩
instance(c:Cnt):C 39 [Es c] (t2F (jH c)) false c.wf:=⟨fun hc0=>by
 have hw:=eu hc0.of hc0.len;have hof:=hc0.of;have h1:=hc0.least
 by_cases h:1<c.least∨c.dW=0∨(a9 c.of).kind≠6
 ·have e:jH c=(.zero,false):=by rw[jH,if_pos h]
  rw[e];refine kf rfl rfl ?_;repeat' first|exact k9|refine k2 ?_|apply kA|apply kI;intro hc|refine k8 ?_|apply kL;intro hl
  all_goals first|exact ao.i rfl|(exfalso;omega)
 ·have hrp:(a8 c.of).of.wf∧(a8 c.of).of.nodes.length+1≤1466015503701∧(⟨6,.zero,⟨#[]⟩,c.least,-1,[]⟩:Nod).wf:=⟨hw.of,by have:=hw.len;omega,mh (by omega) (by omega)⟩
  cases h2:isC (a8 c.of) 1 (-1) with
  | true=>
   have e:jH c=Bw c.least (-1) (a8 c.of).of:=by rw[jH,if_neg h,if_pos h2]
   rw[e];refine kf rfl rfl ?_;repeat' first|exact k9|refine k2 ?_|apply kA|apply kI;intro hc|refine k8 ?_|apply kL;intro hl
   all_goals exact ao.i rfl
  | false=>
   have e:jH c=(.zero,false):=by rw[jH,if_neg h,if_neg (by rw[h2];decide)]
   rw[e];refine kf rfl rfl ?_;repeat' first|exact k9|refine k2 ?_|apply kA|apply kI;intro hc|refine k8 ?_|apply kL;intro hl
   all_goals exact ao.i rfl⟩
instance(c:Cnt):C 40 [Es c] (t2F (kG c)) false c.wf:=⟨fun hc0=>by
 have hw:=eu hc0.of hc0.len;have hof:=hc0.of;have h1:=hw.dW;have hrp:(a8 c.of).of.wf∧(a8 c.of).of.nodes.length+1≤1466015503701∧(⟨6,.zero,⟨#[]⟩,0,(a8 c.of).dW,[]⟩:Nod).wf:=⟨hw.of,by have:=hw.len;omega,mh (by omega) (by omega)⟩
 cases hb:isC c 0 1 with
 | false=>
  have e:kG c=(.zero,false):=by rw[kG,if_pos (.inl hb)]
  rw[e];refine kf rfl rfl ?_;repeat' first|exact k9|refine k2 ?_|apply kA|apply kI;intro hc|refine k8 ?_|apply kL;intro hl
  all_goals exact ao.i rfl
 | true=>
  by_cases h6:(a9 c.of).kind=6
  ·have hn:¬(isC c 0 1=false∨(a9 c.of).kind≠6):=by rw[hb];simp[h6]
   by_cases h2:1<(a8 c.of).least
   ·have e:kG c=(.zero,false):=by rw[kG,if_neg hn,if_pos h2]
    rw[e];refine kf rfl rfl ?_;repeat' first|exact k9|refine k2 ?_|apply kA|apply kI;intro hc|refine k8 ?_|apply kL;intro hl
    all_goals exact ao.i rfl
   ·have e:kG c=Bw 0 (a8 c.of).dW (a8 c.of).of:=by rw[kG,if_neg hn,if_neg h2]
    rw[e];refine kf rfl rfl ?_;repeat' first|exact k9|refine k2 ?_|apply kA|apply kI;intro hc|refine k8 ?_|apply kL;intro hl
    all_goals exact ao.i rfl
  ·have e:kG c=(.zero,false):=by rw[kG,if_pos (.inr h6)]
   rw[e];refine kf rfl rfl ?_;repeat' first|exact k9|refine k2 ?_|apply kA|apply kI;intro hc|refine k8 ?_|apply kL;intro hl
   all_goals exact ao.i rfl⟩
theorem bfF{x:Bool}(h:x=true)(k:x=false):False:=by rw[h] at k;cases k
instance(a b:Tre):C 38 [az a,az b] (t2F (ig a b)) false (a.wf∧b.wf∧a.nodes.length≤100000∧b.nodes.length≤100000):=⟨fun ⟨ha,hb,hal,hbl⟩=>by
 have hwa:=eu ha hal;have hwb:=eu hb hbl;have h1:=hwa.least;have h2:=hwa.dW;have h3:=hwb.least;have h4:=hwb.dW;have hsp:(a8 a).of.wf∧(a8 b).of.wf:=⟨hwa.of,hwb.of⟩
 have hp1:-1000000≤(a8 a).least∧(a8 a).least≤1000000∧-1000000≤(a8 b).least∧(a8 b).least≤1000000:=by omega
 have hp2:-1000000≤(a8 a).dW∧(a8 a).dW≤1000000∧-1000000≤(a8 b).dW∧(a8 b).dW≤1000000:=by omega
 have hpb:∀u v:Int,-1≤u→u≤1000→-1≤v→v≤1000→-1000000≤(eC u v).1∧(eC u v).1≤1000000:=fun u v _ _ _ _=>by
  unfold eC
  split
  ·dsimp only;omega
  ·dsimp only;omega
 have hr2:(a8 a).of.wf∧(a8 a).of.nodes.length+1≤1466015503701∧(⟨6,.zero,⟨#[]⟩,(eC (a8 a).least (a8 b).least).1,(eC (a8 a).dW (a8 b).dW).1,[]⟩:Nod).wf:=⟨hwa.of,by have:=hwa.len;omega,mh (hpb _ _ (by omega) (by omega) (by omega) (by omega)) (hpb _ _ (by omega) (by omega) (by omega) (by omega))⟩
 clear hpb h1 h2 h3 h4;refine kf rfl rfl ?_;repeat' first|exact k9|refine k2 ?_|apply kA|apply kI;intro hc|refine k8 ?_|apply kL;intro hl
 all_goals
  clear hr2 hp1 hp2 hsp hwa hwb ha hb hal hbl
  first
   | (rw[ig,if_pos (by first|exact .inr (by assumption)|exact .inl ⟨by assumption,by assumption⟩)];exact ao.i rfl)
   | (rw[ig,if_neg (by rintro(⟨h1,h2⟩|h1)<;>first|exact absurd (by assumption) h1|exact absurd (by assumption) h2|exact(bfF (by assumption) h1).elim),if_pos ⟨by assumption,by assumption⟩];exact ao.i rfl)
   | (rw[ig,if_neg (by rintro(⟨h1,h2⟩|h1)<;>first|exact absurd (by assumption) h1|exact absurd (by assumption) h2|exact(bfF (by assumption) h1).elim),if_neg (by rintro⟨h1,h2⟩;first|exact(bfF h1 (by assumption)).elim|exact(bfF h2 (by assumption)).elim)];exact ao.i rfl)⟩
instance(a b:Tre):C 41 [az a,az b] (t2F (mw a b)) false (a.wf∧b.wf):=⟨fun ⟨ha,hb⟩=>by
 have h1:=(tX ha).text;have h2:=(tX hb).text;refine kf rfl rfl ?_;repeat' first|exact k9|refine k2 ?_|apply kA|apply kI;intro hc|refine k8 ?_|apply kL;intro hl
 ·rw[mw,if_neg (by omega)];exact ao.i rfl
 ·rw[mw,if_pos (by omega)];refine ao.i ?_;rw[CS]
 ·rw[mw,if_neg (by omega)];exact ao.i rfl
 ·rw[mw,if_neg (by omega)];exact ao.i rfl⟩
end Go.Km
end
