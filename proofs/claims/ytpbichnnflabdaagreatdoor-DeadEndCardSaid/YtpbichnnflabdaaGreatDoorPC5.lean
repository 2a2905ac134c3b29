/- The texts that the card needs, part 6. -/
import Derived.Test.YtpbichnnflabdaaGreatDoorPC4
set_option linter.all false
section
namespace Go.Km
open Go Go.RowKit Go.Vc
open Go.Sl hiding lk
theorem D.um{c:Cf}:∀(x y:List D) (u:List Value),D.ah c (x++y) u→∃u1 u2,u=u1++u2∧D.ah c x u1∧D.ah c y u2
 |[],y,u,h=>⟨[],u,rfl,by unfold D.ah;rfl,h⟩
 |a::x,y,u,h=>by
  rw[List.cons_append]at h;unfold D.ah at h;obtain⟨v,us,rfl,h1,h2⟩:=h;obtain⟨u1,u2,rfl,h3,h4⟩:=D.um x y us h2;exact⟨v::u1,u2,rfl,by unfold D.ah;exact⟨v,u1,rfl,h1,h3⟩,h4⟩
theorem dd{η η':Env}:∀(is:List Nat),(∀b∈is,η' b=η b)→aU η' is=aU η is
 |[],_=>rfl
 |b::l,h=>by
  simp only[aU,h b (List.mem_cons_self ..),dd l fun b hb=>h b (List.mem_cons_of_mem _ hb)]
theorem cT.fz{P:Program}{Γ:Nat→Option (List F)}{η:Env}{f:FuncId}{l1 l2:List D}{fl:List F}{is rd:List Nat}{d:D}{e:List (Nat×B)}(hm:cB (D.toF η 6) l2=some (fl,is))(h:cT P Γ (Res.lk2 (aU η is) η) f (l1++fl.map F.toD) d rd e):cT P Γ η f (l1++l2) d (rd++is) (e++aU η is):=by
 refine⟨fun η' hη' W c O w vs hΓ hp ho hvs=>?_⟩;have hi:∀b∈is,η' b=η b:=fun b hb=>hη' b (List.mem_append_right _ hb)
 have hm':cB (D.toF η' 6) l2=some (fl,is):=ft (fun d x is' h3 h4=>fG 6 d x is' h3 (fun b' hb'=>hi b' (h4 b' hb'))) hm;have hg:=dd is hi;obtain⟨u1,u2,rfl,hu1,hu2⟩:=D.um l1 l2 vs hvs;have hfl:=fN (jC hp is 6) hm' (fun b h=>h) hu2;have hp1:=hp.fz_ is (dD (gC 6) hm');have ho1:=ho.fz_ hp is;have hle1:=qC hp is;have hη2:∀b∈rd,Res.lk2 (aU η' is) η' b=Res.lk2 (aU η is) η b:=by
  intro b hb;rw[hg]
  by_cases hbi:b∈is
  ·obtain⟨x,hx⟩:=dD (gC 6) hm b hbi;rw[(a7 η η' is b).2 hbi x hx,(a7 η η is b).2 hbi x hx]
  ·rw[(a7 η η' is b).1 hbi,(a7 η η is b).1 hbi];exact hη' b (List.mem_append_left _ hb)
 obtain⟨q1,q2⟩:=h.go (Res.lk2 (aU η' is) η') hη2 W (cfz c O is w) (Ofz O is) w (u1++u2) (fun g cs hg=>F.rep.ext hle1.ext _ _ (hΓ g cs hg)) hp1 ho1 (D.bw (D.ah.le hle1 _ _ hu1) (iY hfl));refine⟨q1,q2.mono fun e1 w' ⟨v,h3,h4⟩=>⟨v,h3,?_⟩⟩;refine Res.after (rd0:=rd++is) hp h4 fun d' rd' e' hk=>?_
 obtain⟨rfl,rfl,rfl⟩:=hk;rw[hg];exact⟨rfl,rfl,rfl⟩
theorem lU {P:Program}{X:Tx} (hX:iP P X) {f:FuncId}{fi:Fi} (hf:X.fi f=some fi) {tc e sz:Nat}{rows rows':List (List F)}{l:List F}{r:F} (hN:Nat.ble (l.length+1) fi.N=true)
  (hrun:∀vs,Sn P X f (⟨r.toD,[(0,.va 0 tc [.own 1 0]),(1,.ro 0 e sz rows'),(2,.gh 0 vs (.ptr 0 0 0::l.map F.toD))]⟩:uz) ⟨⟨f,fi.N,j9 0 (.ptr 0 0 0::l.map F.toD),[.code fi.body],[],none⟩,[],[(2,.gh 0 vs (.ptr 0 0 0::l.map F.toD)),(0,.va 0 tc [.own 1 0]),(1,.ro 0 e sz rows)],3⟩)
  {η:Env}{b v b2 v2:Nat} (h1:η b=some (.va v tc [.own b2 v2])) (h2:η b2=some (.ro v2 e sz rows)) :
  cT P X.Γ η f (.ptr b v 0::l.map F.toD) r.toD [b,b2] [(b,.va v tc [.own b2 (nv η b2)]),(b2,.ro (nv η b2) e sz rows')]:=by
 have hne:Nat.beq b b2=false:=by
  rw[←Bool.not_eq_true];intro h;have:=Nat.eq_of_beq_eq_true h;subst this;rw[h1]at h2
  cases h2
 have hne':Nat.beq b2 b=false:=by rw[←Bool.not_eq_true];intro h;rw[Nat.eq_of_beq_eq_true h,Nat.beq_refl]at hne;cases hne
 have hlk:∀{x y:B}{i:Nat}{z:B},lk [(b,x),(b2,y)] i=some z→(i=b∧z=x)∨(i=b2∧z=y):=by
  intro x y i z h;simp only[lk]at h
  cases e1:Nat.beq b i with
  |true=>rw[e1]at h;cases h;exact .inl ⟨(Nat.eq_of_beq_eq_true e1).symm,rfl⟩
  |false=>
   rw[e1]at h
   cases e2:Nat.beq b2 i with
   |true=>rw[e2]at h;cases h;exact .inr ⟨(Nat.eq_of_beq_eq_true e2).symm,rfl⟩
   |false=>rw[e2]at h;cases h
 have l1:∀{x y:B},lk [(b,x),(b2,y)] b=some x:=by intro x y;simp[lk]
 have l2:∀{x y:B},lk [(b,x),(b2,y)] b2=some y:=by intro x y;simp[lk,hne]
 have ho:∀{u u2:Nat},bL [(b,u),(b2,u2)]=true:=by intro u u2;simp[bL,hne']
 have hp:∀{u u2:Nat},cc [(b,u),(b2,u2)] b u 0=some 0:=by intro u u2;simp[cc]
 have hp2:∀{u u2:Nat},cc [(b,u),(b2,u2)] b2 u2 0=some 1:=by intro u u2;simp[cc,hne']
 refine jk hX hf (x:=[]) (x0:=[]) (l:=.ptr b v 0::l.map F.toD) (l0:=.ptr 0 0 0::l.map F.toD) (m0:=[(b,v),(b2,v2)]) (μ:=[(b,v),(b2,nv η b2)]) (hb:=[(b,.va v tc [.own b2 v2]),(b2,.ro v2 e sz rows)]) (h0:=[(0,.va 0 tc [.own 1 0]),(1,.ro 0 e sz rows)]) (d':=r.toD) (ds':=.ptr 0 0 0::l.map F.toD) (h'':=[(0,.va 0 tc [.own 1 0]),(1,.ro 0 e sz rows')]) ⟨ho,ho,?_,?_,?_,?_,?_,?_⟩ ?_ ?_ rfl (fun _ _ _ _ _ _=>⟨[],by simp[D.ah]⟩) ?_ (js _ _) ?_ (fun vs=>by rw[List.append_nil];exact hrun vs)
 ·intro i x h;rcases hlk h with⟨rfl,rfl⟩|⟨rfl,rfl⟩
  ·exact⟨h1,List.mem_cons_self ..⟩
  ·exact⟨h2,List.mem_cons_of_mem _ (List.mem_cons_self ..)⟩
 ·intro i u h;simp only[List.mem_cons,List.not_mem_nil,or_false,Prod.mk.injEq]at h;rcases h with⟨rfl,rfl⟩|⟨rfl,rfl⟩
  ·exact⟨_,l1⟩
  ·exact⟨_,l2⟩
 ·intro i x h;rcases hlk h with⟨rfl,rfl⟩|⟨rfl,rfl⟩
  ·exact List.mem_cons_self ..
  ·exact List.mem_cons_of_mem _ (List.mem_cons_self ..)
 ·intro i x h;rcases hlk h with⟨rfl,rfl⟩|⟨rfl,rfl⟩
  ·exact⟨rfl,.inl ⟨0,rfl⟩⟩
  ·exact⟨rfl,.inl ⟨1,rfl⟩⟩
 ·intro i x y h hy;rcases hlk h with⟨rfl,rfl⟩|⟨rfl,rfl⟩
  ·rw[h1]at hy
   cases hy;exact Nat.le_refl _
  ·rw[h2]at hy
   cases hy;show v2≤nv η i
   unfold nv;rw[h2];exact Nat.le_succ _
 ·intro i j u h
  match i,h with
  |0,h=>cases h;exact .inr (.inl ⟨0,0,rfl,rfl⟩)
  |1,h=>cases h;exact .inl rfl
 ·simp only[cG,l1,l2,B.ver,Nat.beq_refl,cond_true,ez,aO,bj,hp2]
 ·simp only[aO,bj,hp,dR]
 ·rw[List.length_cons,List.length_map];exact hN
 ·simp only[cG,l1,l2,B.ver,Nat.beq_refl,cond_true,ez,aO,bj,hp2]
theorem zH{η:Env}:∀{e:List (Nat×B)},(∀p∈e,η p.1=some p.2)→Res.lk2 e η=η
 |[],_=>rfl
 |(b,x)::l,h=>by
  show up (Res.lk2 l η) b x=η
  rw[zH fun p hp=>h p (List.mem_cons_of_mem _ hp)]
  funext i
  by_cases e:b=i
  ·subst e;rw[bf];exact(h (b,x) (List.mem_cons_self ..)).symm
  ·rw[aG e]
theorem cT.idle{P:Program}{Γ:Nat→Option (List F)}{η:Env}{f:FuncId}{l:List D}{d:D}{rd:List Nat}{e:List (Nat×B)}(h:cT P Γ η f l d rd e)(he:∀p∈e,η p.1=some p.2∧p.1∈rd):cT P Γ η f l d rd []:=⟨fun η' hη' W c O w vs hΓ hp ho hvs=>by
 obtain⟨q1,q2⟩:=h.go η' hη' W c O w vs hΓ hp ho hvs;refine⟨q1,q2.mono fun e1 w' ⟨v,h3,d',rd',e',c',O',⟨hd,hr,hee⟩,k2,k3,k4,k5⟩=>⟨v,h3,_,_,_,c',O',⟨rfl,rfl,rfl⟩,k2,by rw[←hd];exact k3,?_,k5⟩⟩;rw[hee,zH fun p hp=>(hη' _ (he p hp).2).trans (he p hp).1]at k4;exact k4⟩
theorem LO {P:Program}{X:Tx} (hX:iP P X) {f:FuncId}{fi:Fi} (hf:X.fi f=some fi) {tc e sz:Nat}{rows:List (List F)}{l:List F}{r:F} (hN:Nat.ble (l.length+1) fi.N=true)
  (hrun:∀vs,Sn P X f (⟨r.toD,[(0,.va 0 tc [.own 1 0]),(1,.ro 0 e sz rows),(2,.gh 0 vs (.ptr 0 0 0::l.map F.toD++[.own 1 0]))]⟩:uz) ⟨⟨f,fi.N,j9 0 (.ptr 0 0 0::l.map F.toD),[.code fi.body],[],none⟩,[],[(2,.gh 0 vs (.ptr 0 0 0::l.map F.toD++[.own 1 0])),(0,.va 0 tc [.own 1 0]),(1,.ro 0 e sz rows)],3⟩)
  {η:Env}{b v b2 v2:Nat} (h1:η b=some (.va v tc [.own b2 v2])) (h2:η b2=some (.ro v2 e sz rows)) :
  cT P X.Γ η f (.ptr b v 0::l.map F.toD) r.toD [b,b2] []:=by
 have hne:Nat.beq b b2=false:=by
  rw[←Bool.not_eq_true];intro h;have:=Nat.eq_of_beq_eq_true h;subst this;rw[h1]at h2
  cases h2
 have hne':Nat.beq b2 b=false:=by rw[←Bool.not_eq_true];intro h;rw[Nat.eq_of_beq_eq_true h,Nat.beq_refl]at hne;cases hne
 have hlk:∀{x y:B}{i:Nat}{z:B},lk [(b,x),(b2,y)] i=some z→(i=b∧z=x)∨(i=b2∧z=y):=by
  intro x y i z h;simp only[lk]at h
  cases e1:Nat.beq b i with
  |true=>rw[e1]at h;cases h;exact .inl ⟨(Nat.eq_of_beq_eq_true e1).symm,rfl⟩
  |false=>
   rw[e1]at h
   cases e2:Nat.beq b2 i with
   |true=>rw[e2]at h;cases h;exact .inr ⟨(Nat.eq_of_beq_eq_true e2).symm,rfl⟩
   |false=>rw[e2]at h;cases h
 have l1:∀{x y:B},lk [(b,x),(b2,y)] b=some x:=by intro x y;simp[lk]
 have l2:∀{x y:B},lk [(b,x),(b2,y)] b2=some y:=by intro x y;simp[lk,hne]
 have ho:bL [(b,v),(b2,v2)]=true:=by simp[bL,hne']
 have hp:cc [(b,v),(b2,v2)] b v 0=some 0:=by simp[cc]
 have hp2:cc [(b,v),(b2,v2)] b2 v2 0=some 1:=by simp[cc,hne']
 have key:cT P X.Γ η f (.ptr b v 0::l.map F.toD) r.toD [b,b2] [(b,.va v tc [.own b2 v2]),(b2,.ro v2 e sz rows)]:=by
  refine jk hX hf (x:=[.own b2 v2]) (x0:=[.own 1 0]) (l:=.ptr b v 0::l.map F.toD) (l0:=.ptr 0 0 0::l.map F.toD) (m0:=[(b,v),(b2,v2)]) (μ:=[(b,v),(b2,v2)]) (hb:=[(b,.va v tc [.own b2 v2]),(b2,.ro v2 e sz rows)]) (h0:=[(0,.va 0 tc [.own 1 0]),(1,.ro 0 e sz rows)]) (d':=r.toD) (ds':=D.ptr 0 0 0::l.map F.toD++[D.own 1 0]) (h'':=[(0,.va 0 tc [.own 1 0]),(1,.ro 0 e sz rows)]) ⟨ho,ho,?_,?_,?_,?_,?_,?_⟩ ?_ ?_ ?_ ?_ ?_ (js _ _) ?_ hrun
  ·intro i x h;rcases hlk h with⟨rfl,rfl⟩|⟨rfl,rfl⟩
   ·exact⟨h1,List.mem_cons_self ..⟩
   ·exact⟨h2,List.mem_cons_of_mem _ (List.mem_cons_self ..)⟩
  ·intro i u h;simp only[List.mem_cons,List.not_mem_nil,or_false,Prod.mk.injEq]at h;rcases h with⟨rfl,rfl⟩|⟨rfl,rfl⟩
   ·exact⟨_,l1⟩
   ·exact⟨_,l2⟩
  ·intro i x h;rcases hlk h with⟨rfl,rfl⟩|⟨rfl,rfl⟩
   ·exact List.mem_cons_self ..
   ·exact List.mem_cons_of_mem _ (List.mem_cons_self ..)
  ·intro i x h;rcases hlk h with⟨rfl,rfl⟩|⟨rfl,rfl⟩
   ·exact⟨rfl,.inl ⟨0,rfl⟩⟩
   ·exact⟨rfl,.inl ⟨1,rfl⟩⟩
  ·intro i x y h hy;rcases hlk h with⟨rfl,rfl⟩|⟨rfl,rfl⟩
   ·rw[h1]at hy
    cases hy;exact Nat.le_refl _
   ·rw[h2]at hy
    cases hy;exact Nat.le_refl _
  ·intro i j u h
   match i,h with
   |0,h=>cases h;exact .inr (.inl ⟨0,0,rfl,rfl⟩)
   |1,h=>cases h;exact .inr (.inr ⟨l.length+1,by simp,by simp⟩)
  ·simp only[cG,l1,l2,B.ver,Nat.beq_refl,cond_true,ez,aO,bj,hp2]
  ·simp only[aO,bj,hp,dR]
  ·simp only[aO,bj,hp2]
  ·intro η' c O w hη hpw;obtain⟨A,k,vr,k1,_⟩:=hpw.pc b2 _ ((hη b2 (by simp)).trans h2);exact⟨[.slice A rows.length k],by unfold D.ah;exact⟨_,_,rfl,by unfold D.rep;exact⟨A,_,k,k1,rfl⟩,by unfold D.ah;rfl⟩⟩
  ·rw[List.length_cons,List.length_map];exact hN
  ·simp only[cG,l1,l2,B.ver,Nat.beq_refl,cond_true,ez,aO,bj,hp2]
 refine key.idle fun p hp=>?_;simp only[List.mem_cons,List.not_mem_nil,or_false]at hp;rcases hp with rfl|rfl
 ·exact⟨h1,by simp⟩
 ·exact⟨h2,by simp⟩
structure MI(P:Program)(Γ:Nat→Option (List F))(f:FuncId)(tc e sz:Nat)(rows:List (List F))(l:List F)(r:F)(rows':List (List F)):Prop where
 own:∀(η:Env) (b v b2 v2:Nat),η b=some (.va v tc [.own b2 v2])→η b2=some (.ro v2 e sz rows)→cT P Γ η f (.ptr b v 0::l.map F.toD) r.toD [b,b2] [(b,.va v tc [.own b2 (nv η b2)]),(b2,.ro (nv η b2) e sz rows')]
structure Od(P:Program)(Γ:Nat→Option (List F))(f:FuncId)(tc e sz:Nat)(l:List F)(r:F)(rows':List (List F)):Prop where
 nil:∀(η:Env) (b v t:Nat),η b=some (.va v tc [.fr (.vl (.slice none 0 0))])→η t=none→cT P Γ η f (.ptr b v 0::l.map F.toD) r.toD [b,t] [(b,.va v tc [.own t (nv η t)]),(t,.ro (nv η t) e sz rows')]
structure Ni(P:Program)(Γ:Nat→Option (List F))(f:FuncId)(tc e sz:Nat)(rows:List (List F))(l:List F)(r:F):Prop where
 own:∀(η:Env) (b v b2 v2:Nat),η b=some (.va v tc [.own b2 v2])→η b2=some (.ro v2 e sz rows)→cT P Γ η f (.ptr b v 0::l.map F.toD) r.toD [b,b2] []
class HR(P:Program)(Γ:Nat→Option (List F))(f:Nat)(tc e sz:Nat)(rows:List (List F))(l:List F)(r:outParam F)(pre:outParam Prop):Prop where
 h:pre→Ni P Γ f tc e sz rows l r
structure M0(P:Program)(Γ:Nat→Option (List F))(f tc e sz:Nat)(rows:List (List F))(l:List F)(k:F→Prop):Prop where
 h:∃r,Ni P Γ f tc e sz rows l r∧k r
instance{P:Program}{Γ:Nat→Option (List F)}{f tc e sz:Nat}{rows:List (List F)}{l:List F}{r:F}{pre:Prop}{k:F→Prop}[hc:HR P Γ f tc e sz rows l r pre]:Arm (M0 P Γ f tc e sz rows l k) (SdA pre (k r)):=⟨fun⟨h,hk⟩=>⟨r,hc.h h,hk⟩⟩
class Nj(f:Nat):Prop where
 h:True
def L6(P:Program)(Γ:Nat→Option (List F))(t:Nat)(η:Env)(f:Nat)(l:List D)(k:Kr Prop):Prop:=match l with
 |.ptr b v 0::ds=>(match η b,cB (D.toF η 6) ds with
  |some (.va v' tc [.own b2 v2]),some (fl,[])=>(match η b2 with
   |some (.ro v2' e sz rows)=>bif Nat.beq v v'&&Nat.beq v2 v2' then F.fos fl fun fl=>M0 P Γ f tc e sz rows fl fun r=>k r.toD [b,b2] []else False
   |_=>False)
  |_,_=>False)
 |_=>False
theorem Jh{P:Program}{Γ:Nat→Option (List F)}{t:Nat}{η:Env}{f:Nat}{l:List D}{k:Kr Prop}(h:L6 P Γ t η f l k):dg P Γ t η f l k:=by
 unfold L6 at h
 split at h
 ·rename_i b v ds
  split at h
  ·rename_i v' tc b2 v2 fl hb hm
   split at h
   ·rename_i v2' e sz rows hb2
    cases hc:(Nat.beq v v'&&Nat.beq v2 v2')with
    |false=>rw[hc]at h;exact h.elim
    |true=>
     rw[hc,cond_true,F.ct]at h;simp only[Bool.and_eq_true]at hc;obtain⟨c1,c2⟩:=hc
     cases Nat.eq_of_beq_eq_true c1
     cases Nat.eq_of_beq_eq_true c2;obtain⟨r,hp,hk⟩:=h.h;have q:=cT.fz (l1:=[.ptr b v 0]) hm (hp.own _ b v b2 v2 (by exact hb) (by exact hb2));exact⟨_,_,_,q,hk⟩
   ·exact h.elim
  ·exact h.elim
 ·exact h.elim
instance{P:Program}{Γ:Nat→Option (List F)}{t:Nat}{η:Env}{f:Nat}{l:List D}{k:Kr Prop}[Nj f]:Arm (dg P Γ t η f l k) (L6 P Γ t η f l k):=⟨Jh⟩
class HA(P:Program)(Γ:Nat→Option (List F))(f:Nat)(tc e sz:Nat)(rows:List (List F))(l:List F)(r:outParam F)(rows':outParam (List (List F)))(pre:outParam Prop):Prop where
 h:pre→MI P Γ f tc e sz rows l r rows'
structure Nw(P:Program)(Γ:Nat→Option (List F))(f tc e sz:Nat)(rows:List (List F))(l:List F)(k:F→List (List F)→Prop):Prop where
 h:∃r rows',MI P Γ f tc e sz rows l r rows'∧k r rows'
structure N6(P:Program)(Γ:Nat→Option (List F))(f tc:Nat)(l:List F)(k:Nat→Nat→F→List (List F)→Prop):Prop where
 h:∃e sz r rows',Od P Γ f tc e sz l r rows'∧k e sz r rows'
instance{P:Program}{Γ:Nat→Option (List F)}{f tc e sz:Nat}{rows rows':List (List F)}{l:List F}{r:F}{pre:Prop}{k:F→List (List F)→Prop}[hc:HA P Γ f tc e sz rows l r rows' pre]:Arm (Nw P Γ f tc e sz rows l k) (SdA pre (k r rows')):=⟨fun⟨h,hk⟩=>⟨r,rows',hc.h h,hk⟩⟩
class Av(f:Nat):Prop where
 h:True
def Mb(P:Program)(Γ:Nat→Option (List F))(t:Nat)(η:Env)(f:Nat)(l:List D)(k:Kr Prop):Prop:=match l with
 |.ptr b v 0::ds=>(match η b,cB (D.toF η 6) ds with
  |some (.va v' tc [.own b2 v2]),some (fl,is)=>(match η b2 with
   |some (.ro v2' e sz rows)=>bif Nat.beq v v'&&Nat.beq v2 v2' && !is.elem b && !is.elem b2 then F.fos fl fun fl=>Nw P Γ f tc e sz rows fl fun r rows'=>k r.toD (b::b2::is) ((b,.va v tc [.own b2 (nv η b2)])::(b2,.ro (nv η b2) e sz rows')::aU η is)else False
   |_=>False)
  |some (.va v' tc [.fr (.vl (.slice none 0 0))]),some (fl,is)=>(match η t with
   |none=>bif Nat.beq v v' && !is.elem b && !is.elem t then F.fos fl fun fl=>N6 P Γ f tc fl fun e sz r rows'=>k r.toD (b::t::is) ((b,.va v tc [.own t (nv η t)])::(t,.ro (nv η t) e sz rows')::aU η is)else False
   |some _=>False)
  |_,_=>False)
 |_=>False
theorem IE{P:Program}{Γ:Nat→Option (List F)}{t:Nat}{η:Env}{f:Nat}{l:List D}{k:Kr Prop}(h:Mb P Γ t η f l k):dg P Γ t η f l k:=by
 unfold Mb at h
 split at h
 ·rename_i b v ds
  split at h
  ·rename_i v' tc b2 v2 fl is hb hm
   split at h
   ·rename_i v2' e sz rows hb2
    cases hc:(Nat.beq v v'&&Nat.beq v2 v2' && !is.elem b && !is.elem b2)with
    |false=>rw[hc]at h;exact h.elim
    |true=>
     rw[hc,cond_true,F.ct]at h;simp only[Bool.and_eq_true,Bool.not_eq_true',List.elem_eq_contains,List.contains_eq_mem,decide_eq_false_iff_not]at hc;obtain⟨⟨⟨c1,c2⟩,c3⟩,c4⟩:=hc
     cases Nat.eq_of_beq_eq_true c1
     cases Nat.eq_of_beq_eq_true c2;obtain⟨r,rows',hp,hk⟩:=h.h;have q1:=((a7 η η is b).1 c3).trans hb;have q2:=((a7 η η is b2).1 c4).trans hb2;have:=cT.fz (l1:=[.ptr b v 0]) hm (hp.own _ b v b2 v2 q1 q2);rw[kv is c4]at this;exact⟨_,_,_,this,hk⟩
   ·exact h.elim
  ·rename_i v' tc fl is hb hm
   split at h
   ·rename_i ht
    cases hc:(Nat.beq v v' && !is.elem b && !is.elem t)with
    |false=>rw[hc]at h;exact h.elim
    |true=>
     rw[hc,cond_true,F.ct]at h;simp only[Bool.and_eq_true,Bool.not_eq_true',List.elem_eq_contains,List.contains_eq_mem,decide_eq_false_iff_not]at hc;obtain⟨⟨c1,c3⟩,c4⟩:=hc
     cases Nat.eq_of_beq_eq_true c1;obtain⟨e,sz,r,rows',hp,hk⟩:=h.h;have q1:=((a7 η η is b).1 c3).trans hb;have q2:=((a7 η η is t).1 c4).trans ht;have:=cT.fz (l1:=[.ptr b v 0]) hm (hp.nil _ b v t q1 q2);rw[kv is c4]at this;exact⟨_,_,_,this,hk⟩
   ·exact h.elim
  ·exact h.elim
 ·exact h.elim
instance{P:Program}{Γ:Nat→Option (List F)}{t:Nat}{η:Env}{f:Nat}{l:List D}{k:Kr Prop}[Av f]:Arm (dg P Γ t η f l k) (Mb P Γ t η f l k):=⟨IE⟩
theorem Ht{e sz:Nat}{S:Nat→Prop}{w:World}:(Sl.own e sz none 0 0 []).on S w:=⟨World.ownsRow_nil w 0 e sz,rfl,by simp,fun g hg=>by simp[Value.ownBlock]at hg⟩
abbrev uX:D:=.fr (.vl (.slice none 0 0))
theorem Hp.none_{c:Cf}{O:Nat→Nat→Prop}{η:Env}{w:World}{b e sz:Nat}(h:Hp c O η w)(hb:η b=none):c.le (c.add b 0 (none,0,0))∧Hp (c.add b 0 (none,0,0)) (upO O b fun _=>False) (up η b (.ro 0 e sz [])) w:=by
 have hv:nv η b=0:=by unfold nv;rw[hb]
 have hf:=h.fresh b;rw[hv]at hf;refine⟨Cf.eB hf,h.upd Chg.refl (fun g hg=>hg.elim) (Cf.eB hf) rfl rfl ?_ ⟨none,0,[],Cf.cP,by simp[F.aI],by simp,Ht⟩⟩;have:=h.cq (b:=b) (y:=(none,0,0)) (x':=.ro 0 e sz []) hv.symm;rw[hv]at this;exact this
theorem Old.none_{W:Bs}{c:Cf}{O:Nat→Nat→Prop}{w:World}{b:Nat}{y:Option Addr×Nat×Nat}(h:Old W c O w):Old W (c.add b 0 y) (upO O b fun _=>False) w:=h.upd Chg.refl (fun g hg=>hg.elim) rfl rfl
section
variable {ρ:Type} [ix ρ] {P:Program}{X:Tx}{f0:Nat}{r:ρ}{f N:Nat}{s:List (Nat×D)}{ki:List KI}{ds:List (Nat×Nat)}{ro:Option (Nat×Nat)}{cs:List Fm}{h:List (Nat×B)}{nx:Nat}
theorem Ih{s:List (Nat×D)}{k:Nat}{d:D}{j:Nat}{x:D}(hx:lk ((k,d)::s) j=some x):(k=j∧x=d)∨lk s j=some x:=by
 simp only[lk]at hx
 cases e:Nat.beq k j with
 |true=>rw[e]at hx;cases hx;exact .inl ⟨Nat.eq_of_beq_eq_true e,rfl⟩
 |false=>rw[e]at hx;exact .inr hx
theorem Sn.nj(k e sz:Nat)(hs:lk s k=some uX)(hf:lk h nx=none)(H:Sn P X f0 r ⟨⟨f,N,(k,.own nx 0)::s,ki,ds,ro⟩,cs,(nx,.ro 0 e sz [])::h,nx+1⟩):Sn P X f0 r ⟨⟨f,N,s,ki,ds,ro⟩,cs,h,nx⟩:=by
 unfold Sn Snd at *;intro W cs0 hΓ c O fr frs w hr;obtain⟨hle,hp⟩:=Hp.none_ (e:=e) (sz:=sz) hr.hp hf;obtain⟨a,todo,rr,h1,h2,h3,h4,h5⟩:=hr.top.ex;refine H W cs0 hΓ (c.add nx 0 (none,0,0)) (upO O nx fun _=>False) fr frs w ⟨⟨⟨a,todo,rr,h1,⟨h2.size,fun j d hj=>?_⟩,KIs.le hle h3,bH.le hle h4,jK.le hle h5⟩⟩,Fms.le hle hr.cs,?_,Old.none_ hr.old,by cases cs<;>exact hr.bot⟩
 ·rcases Ih hj with⟨rfl,rfl⟩|hj
  ·have:=h2.get _ _ hs;unfold D.rep F.rep at this;unfold D.rep;exact⟨none,0,0,Cf.cP,this⟩
  ·exact D.rep.le hle _ _ (h2.get _ _ hj)
 ·show Hp _ _ (lk ((nx,_)::h)) w
  rw[bU];exact hp
theorem Sn.By(b t e sz:Nat){v:Nat}(hs:lk h b=some (.va v t [uX]))(hf:lk h nx=none)(H:Sn P X f0 r ⟨⟨f,N,s,ki,ds,ro⟩,cs,(b,.va v t [.own nx 0])::(nx,.ro 0 e sz [])::h,nx+1⟩):Sn P X f0 r ⟨⟨f,N,s,ki,ds,ro⟩,cs,h,nx⟩:=by
 unfold Sn Snd at *;intro W cs0 hΓ c O fr frs w hr;obtain⟨hle,hp⟩:=Hp.none_ (e:=e) (sz:=sz) hr.hp hf;obtain⟨a,todo,rr,h1,h2,h3,h4,h5⟩:=hr.top.ex;have hb:b≠nx:=fun e=>by rw[e,hf]at hs;cases hs
 have hbx:up (lk h) nx (.ro 0 e sz []) b=some (.va v t [uX]):=by rw[aG (Ne.symm hb)];exact hs
 refine H W cs0 hΓ (c.add nx 0 (none,0,0)) (upO (upO O nx fun _=>False) b (upO O nx (fun _=>False) b)) fr frs w ⟨⟨⟨a,todo,rr,h1,h2.le hle,KIs.le hle h3,bH.le hle h4,jK.le hle h5⟩⟩,Fms.le hle hr.cs,?_,?_,hr.bot⟩
 ·show Hp _ _ (lk ((b,_)::(nx,_)::h)) w
  rw[bU,bU];refine hp.upd Chg.refl (fun g hg=>.inl hg) (Cf.le.refl _) rfl rfl (hp.cu hbx rfl) ?_;obtain⟨g,vs,k1,k2,k3,k4⟩:=hp.pc b _ hbx;refine⟨g,vs,k1,?_,k3,k4⟩;unfold D.ah at k2 ⊢;obtain⟨u,us,k5,k6,k7⟩:=k2;refine⟨u,us,k5,?_,?_⟩
  ·unfold D.rep F.rep at k6;unfold D.rep;exact⟨none,0,0,Cf.cP,k6⟩
  ·unfold D.ah at k7 ⊢;exact k7
 ·exact(Old.none_ hr.old).upd Chg.refl (fun g hg=>.inl hg) rfl rfl
theorem sB{e sz n c m:Nat}{A:Option Addr}{rows:List (List Value)}{S:Nat→Prop}{w:World}(hm:m≤n)(h:(own e sz A n c rows).on S w):(own e sz A m c (rows.take m)).on S w:=by
 obtain⟨⟨hl,hc⟩,h2,h3,h4⟩:=h;have hrs:∀r∈rows.take m,r.length=sz:=fun r hr=>h3 r (List.mem_of_mem_take hr)
 have hrl:(rows.take m).length=m:=by simp;omega
 refine⟨⟨?_,?_⟩,hrl,hrs,?_⟩
 ·rw[length_flatten hrs,hrl]
 ·rcases hc with⟨hv,h0⟩|⟨g,cap,cur,hv,hg,hw,hr1,hr2,hr3,hr4⟩
  ·injection hv with hA hn hcc
   subst hA;subst hcc;have:m=0:=by omega
   subst this;exact .inl ⟨rfl,rfl⟩
  ·injection hv with hA hn hcc
   subst hA;subst hcc;refine .inr ⟨g,c,cur,rfl,hg,hw,by omega,hr2,hr3,?_⟩;have hle:m*sz≤n*sz:=Nat.mul_le_mul_right sz hm;rw[←pM rows m h3,←hr4,List.take_take,Nat.min_eq_left hle]
 ·intro g hg;refine h4 g ?_
  cases A with
  |none=>simp[Value.ownBlock]at hg
  |some a=>simpa [Value.ownBlock]using hg
theorem Hp.Na{c:Cf}{O:Nat→Nat→Prop}{η:Env}{w:World}{b u e sz hi:Nat}{rows:List (List F)}(h:Hp c O η w)(hb:η b=some (.ro u e sz rows))(hh:hi≤rows.length) :
  ∃A k,c.ι b u=some (A,rows.length,k)∧c.le (c.add b (u+1) (A,hi,k))∧Hp (c.add b (u+1) (A,hi,k)) (upO O b (O b)) (up η b (.ro (u+1) e sz (rows.take hi))) w∧∀W,Old W c O w→Old W (c.add b (u+1) (A,hi,k)) (upO O b (O b)) w:=by
 have hv:nv η b=u+1:=by unfold nv;rw[hb];rfl
 have hf:=h.fresh b;rw[hv]at hf;obtain⟨A,k,vr,k1,k2,k3,k4⟩:=h.pc b _ hb;refine⟨A,k,k1,Cf.eB hf,h.upd Chg.refl (fun g hg=>.inl hg) (Cf.eB hf) rfl rfl ?_ ⟨A,k,vr.take hi,?_,F.cH _ k2,fun r hr=>k3 r (List.mem_of_mem_take hr),?_⟩,fun W hO=>hO.upd Chg.refl (fun g hg=>.inl hg) rfl rfl⟩
 ·have:=h.cq (b:=b) (y:=(A,hi,k)) (x':=.ro (u+1) e sz (rows.take hi)) hv.symm;rw[hv]at this;exact this
 ·rw[Cf.cP,List.length_take,Nat.min_eq_left hh]
 ·rw[List.length_take,Nat.min_eq_left hh];exact sB hh k4
theorem sm{c:Cf}{b u sz hi k:Nat}{A:Option Addr}{m:Nat}{x:Value}(h1:c.ι b u=some (A,m,k))(hx:D.rep c (.sub b u sz 0 hi false) x):hi≤m∧x=.slice A hi k:=by
 unfold D.rep at hx;obtain⟨A',m',k',q1,q2,q3,q4,A2,q5,q6⟩:=hx;rw[h1]at q1
 cases q1;refine⟨q3,?_⟩;rw[q5,q6 (.inl rfl)];simp only[cond_false,Nat.sub_zero,Nat.zero_mul]
 congr 1
 cases A<;>simp[Addr.add]
theorem Sn.IT(b t e sz:Nat){v u b2 hi:Nat}{rows:List (List F)}(hs:lk h b=some (.va v t [.sub b2 u sz 0 hi false]))(hf:lk h b2=some (.ro u e sz rows))(H:Sn P X f0 r ⟨⟨f,N,s,ki,ds,ro⟩,cs,(b,.va v t [.own b2 (u+1)])::(b2,.ro (u+1) e sz (rows.take hi))::h,nx⟩):Sn P X f0 r ⟨⟨f,N,s,ki,ds,ro⟩,cs,h,nx⟩:=by
 unfold Sn Snd at *;intro W cs0 hΓ c O fr frs w hr;have hb:b≠b2:=fun e=>by rw[e,hf]at hs;cases hs
 obtain⟨A0,k0,vr0,k01,_⟩:=hr.hp.pc b2 _ hf;obtain⟨g0,vs0,k10,k20,k30,k40⟩:=hr.hp.pc b _ hs;have hhi:hi≤rows.length:=by
  unfold D.ah at k20;obtain⟨x,us,k5,k6,k7⟩:=k20;exact(sm k01 k6).1
 obtain⟨A,k,hι,hle,hp,hO⟩:=Hp.Na (e:=e) (sz:=sz) hr.hp hf hhi;obtain⟨a,todo,rr,h1,h2,h3,h4,h5⟩:=hr.top.ex;have hbx:up (lk h) b2 (.ro (u+1) e sz (rows.take hi)) b=some (.va v t [.sub b2 u sz 0 hi false]):=by rw[aG (Ne.symm hb)];exact hs
 refine H W cs0 hΓ (c.add b2 (u+1) (A,hi,k)) (upO (upO O b2 (O b2)) b (upO O b2 (O b2) b)) fr frs w ⟨⟨⟨a,todo,rr,h1,h2.le hle,KIs.le hle h3,bH.le hle h4,jK.le hle h5⟩⟩,Fms.le hle hr.cs,?_,?_,by cases cs<;>exact hr.bot⟩
 ·show Hp _ _ (lk ((b,_)::(b2,_)::h)) w
  rw[bU,bU];refine hp.upd Chg.refl (fun g hg=>.inl hg) (Cf.le.refl _) rfl rfl (hp.cu hbx rfl) ?_;obtain⟨g,vs,k1,k2,k3,k4⟩:=hp.pc b _ hbx;refine⟨g,vs,k1,?_,k3,k4⟩;unfold D.ah at k2 ⊢;obtain⟨x,us,k5,k6,k7⟩:=k2;refine⟨x,us,k5,?_,?_⟩
  ·have:=(sm (hle.ι _ _ _ hι) k6).2;unfold D.rep;exact⟨A,hi,k,Cf.cP,this⟩
  ·unfold D.ah at k7 ⊢;exact k7
 ·exact(hO W hr.old).upd Chg.refl (fun g hg=>.inl hg) rfl rfl
theorem Sn.ko(j e sz:Nat){u b2 hi:Nat}{rows:List (List F)}(hs:lk s j=some (.sub b2 u sz 0 hi false))(hf:lk h b2=some (.ro u e sz rows))(H:Sn P X f0 r ⟨⟨f,N,(j,.own b2 (u+1))::s,ki,ds,ro⟩,cs,(b2,.ro (u+1) e sz (rows.take hi))::h,nx⟩):Sn P X f0 r ⟨⟨f,N,s,ki,ds,ro⟩,cs,h,nx⟩:=by
 unfold Sn Snd at *;intro W cs0 hΓ c O fr frs w hr;obtain⟨A0,k0,vr0,k01,_⟩:=hr.hp.pc b2 _ hf;obtain⟨a,todo,rr,h1,h2,h3,h4,h5⟩:=hr.top.ex;obtain⟨A,k,hι,hle,hp,hO⟩:=Hp.Na (e:=e) (sz:=sz) hr.hp hf (sm k01 (h2.get _ _ hs)).1;refine H W cs0 hΓ (c.add b2 (u+1) (A,hi,k)) (upO O b2 (O b2)) fr frs w ⟨⟨⟨a,todo,rr,h1,⟨h2.size,fun i d hj=>?_⟩,KIs.le hle h3,bH.le hle h4,jK.le hle h5⟩⟩,Fms.le hle hr.cs,?_,hO W hr.old,by cases cs<;>exact hr.bot⟩
 ·rcases Ih hj with⟨rfl,rfl⟩|hj
  ·have:=(sm hι (h2.get _ _ hs)).2;unfold D.rep;exact⟨A,hi,k,Cf.cP,this⟩
  ·exact D.rep.le hle _ _ (h2.get _ _ hj)
 ·show Hp _ _ (lk ((b2,_)::h)) w
  rw[bU];exact hp
theorem Stp.IT(b t e sz:Nat){v u b2 hi:Nat}{rows rows':List (List F)}(hs:lk h b=some (.va v t [.sub b2 u sz 0 hi false]))(hf:lk h b2=some (.ro u e sz rows))(he:rows.take hi=rows')(H:Stp (Sn P X f0 r ⟨⟨f,N,s,ki,ds,ro⟩,cs,(b,.va v t [.own b2 (u+1)])::(b2,.ro (u+1) e sz rows')::h,nx⟩)):Stp (Sn P X f0 r ⟨⟨f,N,s,ki,ds,ro⟩,cs,h,nx⟩):=⟨Sn.IT b t e sz hs hf (by rw[he];exact H.h)⟩
theorem Stp.ko(j e sz:Nat){u b2 hi:Nat}{rows rows':List (List F)}(hs:lk s j=some (.sub b2 u sz 0 hi false))(hf:lk h b2=some (.ro u e sz rows))(he:rows.take hi=rows')(H:Stp (Sn P X f0 r ⟨⟨f,N,(j,.own b2 (u+1))::s,ki,ds,ro⟩,cs,(b2,.ro (u+1) e sz rows')::h,nx⟩)):Stp (Sn P X f0 r ⟨⟨f,N,s,ki,ds,ro⟩,cs,h,nx⟩):=⟨Sn.ko j e sz hs hf (by rw[he];exact H.h)⟩
theorem Sn.FO(hf:lk h nx=none)(H:Sn P X f0 r ⟨⟨f,N,s,ki,(nx,0)::ds,ro⟩,cs,(nx,.df 0)::h,nx+1⟩):Sn P X f0 r ⟨⟨f,N,s,ki,ds,ro⟩,cs,h,nx⟩:=by
 unfold Sn Snd at *;intro W cs0 hΓ c O fr frs w hr;have hv:nv (lk h) nx=0:=by unfold nv;rw[hf]
 have hfr:=hr.hp.fresh nx;rw[hv]at hfr;have hle:c.le (c.add nx 0 (none,0,1)):=Cf.eB hfr;obtain⟨a,todo,rr,h1,h2,h3,h4,h5⟩:=hr.top.ex;refine H W cs0 hΓ (c.add nx 0 (none,0,1)) (upO O nx fun _=>False) fr frs w ⟨⟨⟨a,todo,rr,h1,h2.le hle,KIs.le hle h3,⟨[],_,rfl,.inr Cf.cP,bH.le hle h4⟩,jK.le hle h5⟩⟩,Fms.le hle hr.cs,?_,hr.old.upd Chg.refl (fun g hg=>hg.elim) rfl rfl,by cases cs<;>exact hr.bot⟩;show Hp _ _ (lk ((nx,_)::h)) w
 rw[bU];refine hr.hp.upd Chg.refl (fun g hg=>hg.elim) hle rfl rfl ?_ ⟨[],.inr Cf.cP,by simp,by simp⟩;have:=hr.hp.cq (b:=nx) (y:=(none,0,1)) (x':=.df 0) hv.symm;rw[hv]at this;exact this
theorem Sn.Hr{b1 v1 b2 v2:Nat}(hb:Nat.beq b1 b2=false)(hf1:lk h b1=some (.df v1))(hf2:lk h b2=some (.df v2))(H:Sn P X f0 r ⟨⟨f,N,s,ki,(b1,v1+1)::ds,ro⟩,cs,(b2,.gone v2)::(b1,.df (v1+1))::h,nx⟩):Sn P X f0 r ⟨⟨f,N,s,ki,(b1,v1)::(b2,v2)::ds,ro⟩,cs,h,nx⟩:=by
 unfold Sn Snd at *;intro W cs0 hΓ c O fr frs w hr;have hne:b1≠b2:=fun e=>by rw[e,Nat.beq_refl]at hb;cases hb
 have hv:nv (lk h) b1=v1+1:=by unfold nv;rw[hf1];rfl
 have hfr:=hr.hp.fresh b1;rw[hv]at hfr;obtain⟨a,todo,rr,h1,h2,h3,⟨gs1,l1,e1,m1,gs2,l2,e2,m2,h4⟩,h5⟩:=hr.top.ex;obtain⟨gs1',n1,n2,n3⟩:=hr.hp.pc b1 _ hf1;obtain⟨gs2',n4,n5,n6⟩:=hr.hp.pc b2 _ hf2;have:=m1.eq n1;subst this;have:=m2.eq n4;subst this;have hle:c.le (c.add b1 (v1+1) (none,enc (gs1++gs2),1)):=Cf.eB hfr;have hne':=Ne.symm hne;have hO:∀i,i≠b1→i≠b2→(fun g=>(i=b1∧(O b1 g∨O b2 g))∨(i≠b1∧i≠b2∧O i g))=O i:=fun i h1 h2=>funext fun g=>propext ⟨fun h=>h.elim (fun h=>absurd h.1 h1) (fun h=>h.2.2),fun h=>.inr ⟨h1,h2,h⟩⟩
 refine H W cs0 hΓ (c.add b1 (v1+1) (none,enc (gs1++gs2),1)) (fun i g=>(i=b1∧(O b1 g∨O b2 g))∨(i≠b1∧i≠b2∧O i g)) fr frs w ⟨⟨⟨a,todo,rr,h1,h2.le hle,KIs.le hle h3,⟨gs1++gs2,l2,by rw[e1,e2,List.map_append,List.append_assoc],.inr Cf.cP,bH.le hle h4⟩,jK.le hle h5⟩⟩,Fms.le hle hr.cs,?_,?_,by cases cs<;>exact hr.bot⟩
 ·show Hp _ _ (lk ((b2,_)::(b1,_)::h)) w
  rw[bU,bU];refine⟨fun i x hx=>?_,fun i v y hy=>?_,fun i j g hi hj=>?_,fun g hg=>?_,fun i g hi=>?_⟩
  ·by_cases k2:b2=i
   ·subst k2;rw[bf]at hx
    cases hx
    trivial
   ·rw[aG k2]at hx
    by_cases k1:b1=i
    ·subst k1;rw[bf]at hx
     cases hx;refine⟨gs1++gs2,.inr Cf.cP,List.nodup_append.2 ⟨n2,n5,fun x hx y hy e=>?_⟩,fun g hg=>?_⟩
     ·subst e;exact hne (hr.hp.apart _ _ _ (n3 x hx).1 (n6 x hy).1)
     ·rcases List.mem_append.1 hg with hg|hg
      ·exact⟨.inl ⟨rfl,.inl (n3 g hg).1⟩,(n3 g hg).2⟩
      ·exact⟨.inl ⟨rfl,.inr (n6 g hg).1⟩,(n6 g hg).2⟩
    ·rw[aG k1]at hx;show B.on _ i (fun g=>(i=b1∧(O b1 g∨O b2 g))∨(i≠b1∧i≠b2∧O i g)) w x
     rw[hO i (Ne.symm k1) (Ne.symm k2)];exact(hr.hp.pc i x hx).le hle fun _ _=>rfl
  ·have hbd:=hr.hp.cq (b:=b1) (y:=(none,enc (gs1++gs2),1)) (x':=.df (v1+1)) hv.symm;rw[hv]at hbd;obtain⟨x,hx,hle⟩:=hbd i v y hy
   by_cases k2:b2=i
   ·subst k2;rw[aG hne,hf2]at hx
    cases hx;exact⟨_,bf,hle⟩
   ·exact⟨x,by rw[aG k2];exact hx,hle⟩
  ·rcases hi with⟨rfl,hi⟩|⟨q1,q2,hi⟩<;>rcases hj with⟨rfl,hj⟩|⟨q3,q4,hj⟩
   ·rfl
   ·rcases hi with hi|hi
    ·exact absurd (hr.hp.apart _ _ _ hj hi) q3
    ·exact absurd (hr.hp.apart _ _ _ hj hi) q4
   ·rcases hj with hj|hj
    ·exact absurd (hr.hp.apart _ _ _ hi hj) q1
    ·exact absurd (hr.hp.apart _ _ _ hi hj) q2
   ·exact hr.hp.apart _ _ _ hi hj
  ·obtain⟨k1,k2,k3⟩:=hr.hp.fz g hg;refine⟨k1,k2,fun i hi=>?_⟩;rcases hi with⟨_,hi|hi⟩|⟨_,_,hi⟩
   ·exact k3 _ hi
   ·exact k3 _ hi
   ·exact k3 _ hi
  ·rcases hi with⟨_,hi|hi⟩|⟨_,_,hi⟩
   ·exact hr.hp.lt _ _ hi
   ·exact hr.hp.lt _ _ hi
   ·exact hr.hp.lt _ _ hi
 ·have ho:=hr.old;refine⟨ho.os,ho.tape,ho.output,ho.size,ho.cv,fun i g hi=>?_,ho.mF,ho.le⟩;rcases hi with⟨_,hi|hi⟩|⟨_,_,hi⟩
  ·exact ho.own _ _ hi
  ·exact ho.own _ _ hi
  ·exact ho.own _ _ hi
theorem Stp.FO(hf:lk h nx=none)(H:Stp (Sn P X f0 r ⟨⟨f,N,s,ki,(nx,0)::ds,ro⟩,cs,(nx,.df 0)::h,nx+1⟩)):Stp (Sn P X f0 r ⟨⟨f,N,s,ki,ds,ro⟩,cs,h,nx⟩):=⟨Sn.FO hf H.h⟩
theorem Stp.Hr{b1 v1 b2 v2:Nat}(hb:Nat.beq b1 b2=false)(hf1:lk h b1=some (.df v1))(hf2:lk h b2=some (.df v2))(H:Stp (Sn P X f0 r ⟨⟨f,N,s,ki,(b1,v1+1)::ds,ro⟩,cs,(b2,.gone v2)::(b1,.df (v1+1))::h,nx⟩)):Stp (Sn P X f0 r ⟨⟨f,N,s,ki,(b1,v1)::(b2,v2)::ds,ro⟩,cs,h,nx⟩):=⟨Sn.Hr hb hf1 hf2 H.h⟩
theorem Stp.nj(k e sz:Nat)(hs:lk s k=some uX)(hf:lk h nx=none)(H:Stp (Sn P X f0 r ⟨⟨f,N,(k,.own nx 0)::s,ki,ds,ro⟩,cs,(nx,.ro 0 e sz [])::h,nx+1⟩)):Stp (Sn P X f0 r ⟨⟨f,N,s,ki,ds,ro⟩,cs,h,nx⟩):=⟨Sn.nj k e sz hs hf H.h⟩
theorem Stp.By(b t e sz:Nat){v:Nat}(hs:lk h b=some (.va v t [uX]))(hf:lk h nx=none)(H:Stp (Sn P X f0 r ⟨⟨f,N,s,ki,ds,ro⟩,cs,(b,.va v t [.own nx 0])::(nx,.ro 0 e sz [])::h,nx+1⟩)):Stp (Sn P X f0 r ⟨⟨f,N,s,ki,ds,ro⟩,cs,h,nx⟩):=⟨Sn.By b t e sz hs hf H.h⟩
end
theorem cR.n{x y:Int}{h h':List (Nat×B)}(e:x=y)(hh:h=h'):cR (.fr (.vl (.int .i64 x))) h ⟨(F.vl (.int .i64 y)).toD,h'⟩:=⟨by rw[e];rfl,hh⟩
theorem cR.i{d d':D}{h h':List (Nat×B)}(e:d=d')(hh:h=h'):cR d h ⟨d',h'⟩:=⟨e,hh⟩
end Go.Km
end
section
namespace Go.Km
open Go Go.Vc Go.Proofs Go.Proofs.YtpbichnnflabdaaGreatDoor
def inl:List Nat:=[
 132,
 176,
 65,
 196,
 83,
 141,
 142,
 1000000]
def ars:List Nat:=[
 174,
 167,
 175,
 168,
 169,
 170,
 147,
 173,
 179,
 153,
 154,
 189,
 138,
 1000000]
noncomputable def X1:Tx where
 E:=tyE
 Γ:=Vc.lk LH
 fi:=Vc.lk fiL
 pu:=fun f=>!inl.elem f
 Q:=fun _=>false
 bd:=fun _=>0
 bt:=fun _=>0
 u8:=0
 hp:=fun f=>ars.elem f
set_option maxRecDepth 100000 in
theorem dV:iP Tryz.prog X1 where
 E:=BF
 fi:=GM
 mixed:=by kernel_rfl
 deep:=by
  have:Nat.ble 2 Tryz.prog.depth=true:=by kernel_rfl
  exact Nat.le_of_ble_eq_true this
 Q:=fun _ h=>by cases h
 bd:=fun _ _ h=>by cases h
def xb(ops:Array Oper):Nat→Nat→Nat→Bool
 |0,_,_=>false
 |f+1,i,k=>match ops[i]? with
  |some o=>(o.after.any fun e=>Region.binds .any e&&Nat.beq e.on k)||(o.after.any fun e=>Region.binds .any e&&(Nat.blt k e.on&&xb ops f e.on k))
  |none=>false
theorem zj(ops:Array Oper):∀(f i k:Nat),xb ops f i k=true→Sl.cZ ops f i k=true
 |0,i,k,h=>by cases h
 |f+1,i,k,h=>by
  unfold xb at h;unfold Sl.cZ
  split at h
  ·rename_i o ho;rw[ho];dsimp only;rw[Bool.or_eq_true,←Array.any_toList,←Array.any_toList,List.any_eq_true,List.any_eq_true]at h;rw[←Array.any_toList,List.any_eq_true];rcases h with⟨e,he,h1⟩|⟨e,he,h1⟩
   ·rw[Bool.and_eq_true]at h1;exact⟨e,he,by rw[h1.1,h1.2];rfl⟩
   ·rw[Bool.and_eq_true,Bool.and_eq_true]at h1;exact⟨e,he,by rw[h1.1,zj ops f e.on k h1.2.2];simp⟩
  ·cases h
def ML(ops:Array Oper)(acs:List Ac):Bool:=
 Region.noSelect ops&&(List.range ops.size).all fun i=>
  (match ops[i]? with|some o=>o.after.all fun e=>!Region.binds .any e||Nat.blt e.on i|none=>true) &&
  (List.range i).all fun k=>vF ops acs k i||xb ops 6 i k
theorem wV{ops:Array Oper}{acs:List Ac}(h:ML ops acs=true):okD ops acs=true:=by
 unfold ML at h;unfold okD;rw[Bool.and_eq_true,List.all_eq_true]at h ⊢;refine⟨h.1,fun i hi=>?_⟩;have h1:=h.2 i hi;rw[Bool.and_eq_true]at h1 ⊢;refine⟨h1.1,?_⟩;rw[List.all_eq_true];intro k hk;have h2:=List.all_eq_true.1 h1.2 k hk;rw[Bool.or_eq_true]at h2 ⊢;rcases h2 with h2|h2
 ·exact .inr h2
 ·exact .inl (zj ops 6 i k h2)
structure KB(p q:Prop):Prop where
 h:p
 k:q
structure KH(c p:Prop):Prop where
 h:c→p
structure KL(c:Prop)(p:c→Prop):Prop where
 h:∀h,p h
theorem kA{p q:Prop}(h:p)(k:q):KB p q:=⟨h,k⟩
theorem kI{c p:Prop}(h:c→p):KH c p:=⟨h⟩
theorem kL{c:Prop}{p:c→Prop}(h:∀h,p h):KL c p:=⟨h⟩
theorem KB.br{c d p q:Prop}(h:KB (Br c p) (Br d q)):BrA c d p q:=⟨h.h.h,h.k.h⟩
structure Nq(c d:Prop):Prop where
 h:c→d
theorem Nq.i{c d:Prop}(e:c=d:=by first|(simp only[List.length_map,List.length_append,List.length_take,List.length_drop,List.length_replicate,List.length_set,jW];rfl)|rfl):Nq c d:=⟨fun h=>e▸h⟩
theorem KH.br{c d p:Prop}(e:Nq c d)(h:KH d p):Br c p:=⟨fun x=>h.h (e.h x)⟩
theorem KL.ex{p:Prop}{k:p→Prop}(h:Nd p)(hk:KL p k):ExS p k:=⟨h.h,hk.h h.h⟩
theorem k9{p:Prop}(h:p:=by first|(apply Br.no;exact No.i)|with_reducible exact aq.r|((with_reducible apply aq.t);rfl)):p:=h
theorem k1 {p q:Prop} (k:q) (f:Sl.Fg q→p:=by
 intro h
 (try(conv=>whnf))
 first
  |(with_reducible apply Arm.h)
  |(apply SdA.m;exact Nd.i)
  |(apply OrA.l;exact Nd.i)
  |apply OrA.r
  |(apply OkA.i;apply wV;kernel_rfl)
  |(with_reducible apply KB.br)
  |(apply KH.br;exact Nq.i;(conv=>arg 2;whnf))
  |(apply KL.ex;exact Nd.i;(conv=>arg 2;intro _;whnf))
  |(apply ExK.m;exact Kn.i)
 repeat
  (conv=>whnf)
  first
   |(with_reducible apply Arm.h)
   |(apply SdA.m;exact Nd.i)
   |(apply OrA.l;exact Nd.i)
   |apply OrA.r
   |(apply OkA.i;apply wV;kernel_rfl)
   |(with_reducible apply KB.br)
   |(apply KH.br;exact Nq.i;(conv=>arg 2;whnf))
   |(apply KL.ex;exact Nd.i;(conv=>arg 2;intro _;whnf))
   |(apply ExK.m;exact Kn.i)
 (try(conv=>whnf))
 exact h.go):p:=f ⟨k⟩
theorem k5 {p q:Prop} (k:q) (f:Sl.Fg q→p:=by
 intro h
 first
  |(apply FoA.m;exact Kn.i)
  |apply FoA.o
  |apply Sn.go dV
  |(with_reducible show yQ _ _)
 (conv=>whnf)
 exact h.go):p:=f ⟨k⟩
theorem k2 {p q:Prop} (k:q) (f:Sl.Fg q→p:=by
 intro h
 first
  |(
   (try(conv=>whnf))
   first
    |(with_reducible apply Arm.h)
    |(apply SdA.m;exact Nd.i)
    |(apply OrA.l;exact Nd.i)
    |apply OrA.r
    |(apply OkA.i;apply wV;kernel_rfl)
    |(with_reducible apply KB.br)
    |(apply KH.br;exact Nq.i;(conv=>arg 2;whnf))
    |(apply KL.ex;exact Nd.i;(conv=>arg 2;intro _;whnf))
    |(apply ExK.m;exact Kn.i)
    |(apply FoA.m;exact Kn.i)
    |apply FoA.o
    |apply Sn.go dV
   )
  |((with_reducible show yQ _ _);(conv=>whnf))
 repeat
  (conv=>whnf)
  first
   |(with_reducible apply Arm.h)
   |(apply SdA.m;exact Nd.i)
   |(apply OrA.l;exact Nd.i)
   |apply OrA.r
   |(apply OkA.i;apply wV;kernel_rfl)
   |(with_reducible apply KB.br)
   |(apply KH.br;exact Nq.i;(conv=>arg 2;whnf))
   |(apply KL.ex;exact Nd.i;(conv=>arg 2;intro _;whnf))
   |(apply ExK.m;exact Kn.i)
   |(apply FoA.m;exact Kn.i)
   |apply FoA.o
   |apply Sn.go dV
 (try(conv=>whnf))
 exact h.go):p:=f ⟨k⟩
theorem KB.sd{p q:Prop}(h:KB (Nd p) q):SdA p q:=⟨h.h.h,h.k⟩
theorem k8 {p q:Prop} (k:q) (f:Sl.Fg q→p:=by
 intro h
 first
  |(apply KB.sd;(conv=>arg 2;whnf);exact h.go)
  |(apply KB.ex;(conv=>arg 2;arg 2;intro _;whnf);exact h.go)):p:=f ⟨k⟩
theorem kf{f:FuncId}{fi:Fi}{l:List F}{r:F}{b:Bool}(hf:X1.fi f=some fi)(hN:Nat.ble l.length fi.N=true)(h:yQ (wT f fi (l.map F.toD)) (g24 Tryz.prog X1 f (r,b))):Pure Tryz.prog X1.Γ f l r b:=fL dV hf hN h
end Go.Km
end
section
namespace Go.aa
open Go Go.Sl
def tq(b:Int):Bool:=decide (48≤b)&&decide (b≤57)
def iy(b:Int):Bool:=(decide (97≤b)&&decide (b≤122))||(decide (65≤b)&&decide (b≤90))||decide (b=95)
def eO(b:UInt8):Bool:=iy b.toNat||tq b.toNat
def runN(l:List UInt8):Nat:=(l.takeWhile eO).length
def kO:List UInt8→Bool
 |[]=>false
 |b::_=>iy b.toNat
def fS(s:ByteArray):ByteArray:=if kO s.data.toList then s.extract 0 (runN s.data.toList)else⟨#[]⟩
def gE(s:ByteArray):Bool:=decide (s.size≤32)&&kO s.data.toList&&s.data.toList.all eO
theorem J2(l:List UInt8):runN l≤l.length:=by
 unfold runN;exact List.Sublist.length_le (List.takeWhile_sublist _)
theorem vz:∀(l:List UInt8) (k:Nat),k≤l.length→(∀j b,j<k→l[j]?=some b→eO b=true)→(∀b,l[k]?=some b→eO b=false)→k=runN l
 |[],k,hk,_,_=>by simp at hk;subst hk;rfl
 |c::l,0,_,_,h2=>by
  have:=h2 c (by simp);simp[runN,List.takeWhile,this]
 |c::l,k+1,hk,h1,h2=>by
  have hc:=h1 0 c (by omega) (by simp);have ih:=vz l k (by simpa using hk) (fun j b hj hb=>h1 (j+1) b (by omega) (by simpa using hb)) (fun b hb=>h2 b (by simpa using hb));simp only[runN,List.takeWhile_cons,hc,if_true,List.length_cons];simp only[runN]at ih;omega
theorem Gm(l:List UInt8):(runN l=l.length)↔l.all eO=true:=by
 induction l with
 |nil=>simp[runN]
 |cons c l ih=>
  unfold runN at *;rw[List.takeWhile_cons]
  by_cases hc:eO c=true
  ·simp[hc];simpa using ih
  ·simp[hc]
theorem ux(s:ByteArray):(fS s).size=if kO s.data.toList then runN s.data.toList else 0:=by
 unfold fS;have:=J2 s.data.toList;have hs:s.data.toList.length=s.size:=Array.length_toList
 split
 ·rw[ByteArray.size_extract];omega
 ·rfl
theorem AO(s:ByteArray)(h:(fS s).size=s.size)(hs:s≠⟨#[]⟩):fS s=s:=by
 rw[ux]at h;have hs':s.data.toList.length=s.size:=Array.length_toList;unfold fS
 split at h
 ·rename_i hh;rw[if_pos hh,h];apply ByteArray.ext;simp
 ·exact absurd (ByteArray.ext (Array.eq_empty_of_size_eq_zero h.symm)) hs
theorem Co(s:ByteArray):gE s=(!decide (s=⟨#[]⟩)&&decide (s.size≤32)&&decide ((fS s).size=s.size)):=by
 unfold gE;have hs:s.data.toList.length=s.size:=Array.length_toList;rw[ux]
 by_cases he:s=⟨#[]⟩
 ·subst he;simp[kO]
 ·have hne:s.size≠0:=fun h=>he (ByteArray.ext (Array.eq_empty_of_size_eq_zero h))
  cases hh:kO s.data.toList with
  |false=>
   have:¬(0=s.size):=by omega
   simp[he,this]
  |true=>
   have:=Gm s.data.toList;rw[hs]at this
   by_cases hb:s.data.toList.all eO=true
   ·simp only[this.2 hb,hb,he];simp
   ·have h2:¬(runN s.data.toList=s.size):=fun h=>hb (this.1 h)
    have hb':s.data.toList.all eO=false:=by simpa using hb
    rw[hb'];simp[h2]
theorem tl(s:ByteArray):gE s=(!decide (s=⟨#[]⟩)&&decide (s.size≤32)&&decide (fS s=s)):=by
 rw[Co]
 by_cases he:s=⟨#[]⟩
 ·simp[he]
 ·congr 1
  rw[decide_eq_decide];exact⟨fun h=>AO s h he,fun h=>by rw[h]⟩
theorem x8(s:ByteArray):gE s=(!decide (s=⟨#[]⟩)&&decide ((s.size:Int)≤32)&&decide (((fS s).size:Int)=(s.size:Int))):=by
 rw[Co]
 congr 1
 ·congr 1
  rw[decide_eq_decide];omega
 ·rw[decide_eq_decide];omega
theorem Du(s:ByteArray):gE s=(!decide (s=⟨#[]⟩)&&decide ((s.size:Int)≤32)&&decide (fS s=s)):=by
 rw[tl]
 congr 2
 rw[decide_eq_decide];omega
structure Bts where
 a:Int
 b:Int
 c:Int
 d:Int
deriving DecidableEq
structure Nod where
 kind:Int
 set:Bts
 text:ByteArray
 min:Int
 max:Int
 kids:List Int
deriving DecidableEq
structure Tre where
 nodes:List Nod
 root:Int
deriving DecidableEq
def Bts.zero:Bts:=⟨0,0,0,0⟩
def Nod.zero:Nod:=⟨0,.zero,⟨#[]⟩,0,0,[]⟩
def Tre.zero:Tre:=⟨[],0⟩
def fits(n:Nod)(kids:Int):Bool:=
 if n.kind=0 then decide (n.set=.zero)&&decide (n.text=⟨#[]⟩)&&decide (n.min=0)&&decide (n.max=0)&&decide (kids=0)
 else if n.kind=1 then decide (n.text=⟨#[]⟩)&&decide (n.min=0)&&decide (n.max=0)&&decide (kids=0)
 else if n.kind=2 then decide (n.set=.zero)&&decide (n.min=0)&&decide (n.max=0)&&decide (kids=0) && !decide (n.text=⟨#[]⟩)&&decide ((n.text.size:Int)≤255)
 else if n.kind=3 then decide (n.set=.zero)&&decide (n.min=0)&&decide (n.max=0)&&decide (kids=0)&&gE n.text
 else if n.kind=4∨n.kind=5 then decide (n.set=.zero)&&decide (n.text=⟨#[]⟩)&&decide (n.min=0)&&decide (n.max=0)&&decide (2≤kids)
 else if n.kind=6 then decide (n.set=.zero)&&decide (n.text=⟨#[]⟩)&&decide (kids=1)&&decide (0≤n.min)&&decide (n.min≤99)&&(decide (n.max=-1)||decide (n.min≤n.max)&&decide (n.max≤99))
 else if n.kind=7∨n.kind=8 then decide (n.set=.zero)&&decide (n.text=⟨#[]⟩)&&decide (n.min=0)&&decide (n.max=0)&&decide (kids=1)
 else if n.kind=9 then decide (n.set=.zero)&&decide (n.min=0)&&decide (n.max=0)&&decide (kids=1)&&gE n.text
 else false
def az(l:List Nod):List Int:=l.flatMap (·.kids)
def b4(i:Int):List Int→List Bool→Option (List Bool)
 |[],tk=>some tk
 |k::l,tk=>if k<0∨i≤k∨tk.getD k.toNat false=true then none else b4 i l (tk.set k.toNat true)
def cn:Nat→List Nod→List Bool→Option (List Bool)
 |_,[],tk=>some tk
 |i,n::l,tk=>if fits n n.kids.length=true then(b4 i n.kids tk).bind (cn (i+1) l)else none
def au(t:Tre):Bool:=
 decide (0≤t.root)&&decide (t.root<t.nodes.length)&&match cn 0 t.nodes (List.replicate t.nodes.length false)with
  |none=>false
  |some tk=>(List.range t.nodes.length).all fun i=>!(tk.getD i false==decide ((i:Int)=t.root))
theorem jJ(i:Int):∀(l:List Int) (tk tk':List Bool),b4 i l tk=some tk'→tk'.length=tk.length
 |[],tk,tk',h=>by simp[b4]at h;rw[h]
 |k::l,tk,tk',h=>by
  unfold b4 at h
  split at h
  ·cases h
  ·have:=jJ i l _ _ h;simpa using this
def nQ(ns:List Nod)(k:Int):List Int:=match ns[k.toNat]? with
 |some n=>n.kids
 |none=>[]
def bD(ch:Int→List Int):Prop:=∀k,∀x∈ch k,0≤x∧x<k
def dfs(ch:Int→List Int):Nat→List Int→List Int
 |0,_=>[]
 |f+1,l=>l.flatMap fun k=>k::dfs ch f (ch k)
def iN(ch:Int→List Int):Nat→List Int→List Int
 |0,_=>[]
 |f+1,l=>l.flatMap fun k=>iN ch f (ch k)++[k]
def en(ch:Int→List Int)(k:Int):List Int:=(ch k).reverse
theorem bK(ch:Int→List Int)(f:Nat):dfs ch f []=[]:=by cases f<;>rfl
theorem zi(ch:Int→List Int)(f:Nat):iN ch f []=[]:=by cases f<;>rfl
theorem bp(ch:Int→List Int)(f:Nat)(l m:List Int):dfs ch f (l++m)=dfs ch f l++dfs ch f m:=by cases f<;>simp[dfs]
theorem bD.rev{ch:Int→List Int}(h:bD ch):bD (en ch):=fun k x hx=>h k x (by simpa [en]using hx)
theorem oO{ch:Int→List Int}(h:bD ch):∀(f g:Nat) (l:List Int),(∀k∈l,0≤k∧k<f)→(∀k∈l,k<g)→dfs ch f l=dfs ch g l
 |0,g,l,hf,hg=>by
  cases l with
  |nil=>rw[bK,bK]
  |cons k l=>have:=hf k (by simp);omega
 |f+1,0,l,hf,hg=>by
  cases l with
  |nil=>rw[bK,bK]
  |cons k l=>
   have:=hf k (by simp);have:=hg k (by simp);omega
 |f+1,g+1,l,hf,hg=>by
  show l.flatMap _=l.flatMap _
  rw[List.flatMap_def,List.flatMap_def]
  congr 1
  apply List.map_congr_left;intro k hk;have h1:=hf k hk;have h2:=hg k hk;rw[oO h f g (ch k) (fun x hx=>⟨(h k x hx).1,by have:=(h k x hx).2;omega⟩) (fun x hx=>by have:=(h k x hx).2;omega)]
theorem aQ{ch:Int→List Int}(h:bD ch){f:Nat}{k:Int}{l:List Int}(h0:0≤k)(hk:k<f):dfs ch f (k::l)=k::(dfs ch f (ch k)++dfs ch f l):=by
 cases f with
 |zero=>omega
 |succ f=>
  have e:dfs ch f (ch k)=dfs ch (f+1) (ch k):=oO h f (f+1) (ch k) (fun x hx=>⟨(h k x hx).1,by have:=(h k x hx).2;omega⟩) (fun x hx=>by have:=(h k x hx).2;omega);rw[←e];simp[dfs]
theorem pr(ch:Int→List Int):∀(f:Nat) (l:List Int),(dfs (en ch) f l.reverse).reverse=iN ch f l
 |0,l=>rfl
 |f+1,l=>by
  induction l with
  |nil=>rfl
  |cons k l ih=>
   rw[List.reverse_cons,bp,List.reverse_append,ih];have h1:=pr ch f (ch k);simp only[dfs,iN,List.flatMap_cons,List.flatMap_nil,List.append_nil,List.reverse_cons];rw[show en ch k=(ch k).reverse from rfl,h1]
theorem dp{ch:Int→List Int}(f:Nat)(l:List Int)(hf:0<f):l.length≤(dfs ch f l).length:=by
 cases f with
 |zero=>omega
 |succ f=>
  induction l with
  |nil=>simp
  |cons k l ih=>
   simp only[dfs,List.flatMap_cons,List.length_append,List.length_cons]at ih ⊢;omega
theorem ew{ch:Int→List Int}:∀(f:Nat) (l:List Int),(dfs (en ch) f l).length=(dfs ch f l).length
 |0,l=>rfl
 |f+1,l=>by
  induction l with
  |nil=>rfl
  |cons k l ih=>
   simp only[dfs,List.flatMap_cons,List.length_append,List.length_cons]at ih ⊢;have h1:=ew (ch:=ch) f (en ch k);have h2:∀(f:Nat) (m:List Int),(dfs ch f m.reverse).length=(dfs ch f m).length:=by
    intro f m
    induction m with
    |nil=>rfl
    |cons x m ihm=>rw[List.reverse_cons,bp,List.length_append,ihm,show x::m=[x]++m from rfl,bp,List.length_append];omega
   rw[h1,show en ch k=(ch k).reverse from rfl,h2,ih]
theorem bQ{α:Type}(l:List α):l=[]∨∃init x,l=init++[x]:=by
 rcases List.eq_nil_or_concat l with h|⟨a,b,h⟩
 ·exact .inl h
 ·exact .inr ⟨a,b,by rw[h,List.concat_eq_append]⟩
def KOk(ns:List Nod):Prop:=∀(i:Nat) n,ns[i]?=some n→∀k∈n.kids,0≤k∧k<i
theorem KOk.ch{ns:List Nod}(h:KOk ns):bD (fun k=>if k<0 then[]else nQ ns k):=by
 intro k x hx
 by_cases h0:k<0
 ·simp[h0]at hx
 ·simp only[h0,if_false,nQ]at hx
  cases hn:ns[k.toNat]? with
  |none=>simp[hn]at hx
  |some n=>
   simp only[hn]at hx;have:=h _ _ hn x hx;omega
theorem zG(l:List Bool)(i j:Nat)(b:Bool)(hi:i<l.length):(l.set i b).getD j false=if i=j then b else l.getD j false:=by
 simp only[List.getD_eq_getElem?_getD,List.getElem?_set]
 by_cases h:i=j
 ·subst h;simp[hi]
 ·simp[h]
theorem gV(i:Int):∀(l:List Int) (tk tk':List Bool),i≤tk.length→b4 i l tk=some tk'→
  (∀k∈l,0≤k∧k<i)∧∀j:Nat,(tk'.getD j false).toNat=(tk.getD j false).toNat+l.count (j:Int)
 |[],tk,tk',_,h=>by simp[b4]at h;subst h;simp
 |k::l,tk,tk',hi,h=>by
  unfold b4 at h
  split at h
  ·cases h
  ·rename_i hc;have h0:0≤k∧k<i:=by omega
   have htk:tk.getD k.toNat false=false:=by
    cases hh:tk.getD k.toNat false with
    |false=>rfl
    |true=>exact absurd (.inr (.inr hh)) hc
   obtain⟨h1,h2⟩:=gV i l _ _ (by simpa using hi) h;refine⟨fun x hx=>?_,fun j=>?_⟩
   ·rcases List.mem_cons.1 hx with rfl|hx
    ·exact h0
    ·exact h1 x hx
   ·rw[h2 j,zG _ _ _ _ (by omega),List.count_cons]
    by_cases hj:k.toNat=j
    ·subst hj;rw[if_pos rfl,htk];have:(k==((k.toNat:Nat):Int))=true:=by simp;omega
     rw[this];simp;omega
    ·rw[if_neg hj];have:(k==(j:Int))=false:=by simp;omega
     rw[this];simp
theorem gp:∀(l:List Nod) (i:Nat) (tk tk':List Bool),i+l.length≤tk.length→cn i l tk=some tk'→
  (∀(j:Nat) n,l[j]?=some n→fits n n.kids.length=true∧∀k∈n.kids,0≤k∧k<((i+j:Nat):Int))∧
   ∀j:Nat,(tk'.getD j false).toNat=(tk.getD j false).toNat+(az l).count (j:Int)
 |[],i,tk,tk',_,h=>by simp[cn]at h;subst h;simp[az]
 |n::l,i,tk,tk',hi,h=>by
  unfold cn at h
  split at h
  ·rename_i hf;obtain⟨t1,ht1,h⟩:=Option.bind_eq_some_iff.1 h;simp only[List.length_cons]at hi;obtain⟨a1,a2⟩:=gV i n.kids tk t1 (by omega) ht1;have hl:=jJ i _ _ _ ht1;obtain⟨b1,b2⟩:=gp l (i+1) t1 tk' (by omega) h;refine⟨fun j m hj=>?_,fun j=>?_⟩
   ·cases j with
    |zero=>
     simp at hj;subst hj;exact⟨hf,fun k hk=>by have:=a1 k hk;omega⟩
    |succ j=>
     simp at hj;refine⟨(b1 j m hj).1,fun k hk=>?_⟩;have:=(b1 j m hj).2 k hk;omega
   ·rw[b2 j,a2 j];simp only[az,List.flatMap_cons,List.count_append];omega
  ·cases h
structure av(t:Tre):Prop where
 root:0≤t.root∧t.root<t.nodes.length
 fits:∀(i:Nat) n,t.nodes[i]?=some n→fits n n.kids.length=true
 kok:KOk t.nodes
 count:∀i:Nat,i<t.nodes.length→(az t.nodes).count (i:Int)=if(i:Int)=t.root then 0 else 1
theorem ao{t:Tre}(h:au t=true):av t:=by
 unfold au at h;simp only[Bool.and_eq_true,decide_eq_true_eq]at h;obtain⟨⟨h1,h2⟩,h3⟩:=h
 split at h3
 ·cases h3
 ·rename_i tk htk;obtain⟨a,b⟩:=gp t.nodes 0 _ _ (by simp) htk;refine⟨⟨h1,h2⟩,fun i n hi=>(a i n hi).1,fun i n hi k hk=>?_,fun i hi=>?_⟩
  ·have:=(a i n hi).2 k hk;omega
  ·have hb:=b i;rw[List.all_eq_true]at h3;have hc:=h3 i (by simpa using hi);rw[show(List.replicate t.nodes.length false).getD i false=false by simp[List.getD_eq_getElem?_getD,List.getElem?_replicate];split<;>rfl]at hb
   by_cases hr:(i:Int)=t.root
   ·rw[if_pos hr];simp only[hr,decide_true]at hc
    cases hv:tk.getD i false with
    |false=>rw[hv]at hb;simp at hb;omega
    |true=>rw[hv]at hc;simp at hc
   ·rw[if_neg hr];simp only[hr,decide_false]at hc
    cases hv:tk.getD i false with
    |false=>rw[hv]at hc;simp at hc
    |true=>rw[hv]at hb;simp at hb;omega
def ae(ns:List Nod)(k:Int):List Int:=if k<0 then[]else nQ ns k
theorem KOk.ae{ns:List Nod}(h:KOk ns):bD (ae ns):=h.ch
theorem aF{ns:List Nod}{i:Nat}{n:Nod}(h:ns[i]?=some n):n.kids=ae ns i:=by
 have:¬((i:Int)<0):=by omega
 simp[ae,nQ,h,this]
theorem D1{ns:List Nod}{k:Int}(h:(ns.length:Int)≤k):ae ns k=[]:=by
 unfold ae nQ
 split
 ·rfl
 ·rw[List.getElem?_eq_none (by omega)]
theorem uH{ns:List Nod}:((List.range ns.length).map Int.ofNat).flatMap (ae ns)=az ns:=by
 unfold az;rw[List.flatMap_def,List.flatMap_def,List.map_map]
 congr 1
 apply List.ext_getElem?;intro i;rw[List.getElem?_map,List.getElem?_map]
 by_cases hi:i<ns.length
 ·rw[List.getElem?_range hi,List.getElem?_eq_getElem hi];simp only[Option.map_some,Function.comp];exact congrArg some (aF (List.getElem?_eq_getElem hi)).symm
 ·rw[List.getElem?_eq_none (by simpa using hi),List.getElem?_eq_none (by simpa using hi)];rfl
theorem vw{ch:Int→List Int}(hc:bD ch)(x:Int):∀(f:Nat) (l:List Int),(∀k∈l,0≤k∧k<f)→(dfs ch f l).count x=l.count x+((dfs ch f l).flatMap ch).count x
 |0,l,h=>by
  cases l with
  |nil=>simp[dfs]
  |cons k l=>have:=h k (by simp);omega
 |f+1,l,h=>by
  induction l with
  |nil=>simp[dfs]
  |cons k l ih=>
   have ih:=ih (fun y hy=>h y (by simp[hy]));have hk:=h k (by simp);have h2:=vw hc x f (ch k) (fun y hy=>⟨(hc k y hy).1,by have:=(hc k y hy).2;omega⟩);simp only[dfs,List.flatMap_cons,List.count_append,List.count_cons,List.flatMap_append]at ih h2 ⊢;omega
theorem eX{ch:Int→List Int}(hc:bD ch):∀(f:Nat) (l:List Int),(∀k∈l,0≤k∧k<f)→∀x∈dfs ch f l,0≤x∧x<f
 |0,l,h,x,hx=>by simp[dfs]at hx
 |f+1,l,h,x,hx=>by
  simp only[dfs,List.mem_flatMap,List.mem_cons]at hx;obtain⟨k,hk,rfl|hx⟩:=hx
  ·exact h x hk
  ·have hk:=h k hk;have:=eX hc f (ch k) (fun y hy=>⟨(hc k y hy).1,by have:=(hc k y hy).2;omega⟩) x hx;omega
theorem Jq{ch:Int→List Int}(f:Nat)(l:List Int)(hf:0<f):l.Sublist (dfs ch f l):=by
 cases f with
 |zero=>omega
 |succ f=>
  induction l with
  |nil=>simp
  |cons k l ih=>
   simp only[dfs,List.flatMap_cons]at ih ⊢;exact List.Sublist.cons_cons k (ih.trans (List.sublist_append_right _ _))
theorem CO{ch:Int→List Int}(hc:bD ch):∀(f:Nat) (l:List Int),(∀k∈l,0≤k∧k<f)→∀y∈dfs ch f l,(y::ch y).Sublist (dfs ch f l)
 |0,l,h,y,hy=>by simp[dfs]at hy
 |f+1,l,h,y,hy=>by
  simp only[dfs,List.mem_flatMap,List.mem_cons]at hy;obtain⟨k,hk,hy⟩:=hy;have hkf:=h k hk;have hin:(k::dfs ch f (ch k)).Sublist (dfs ch (f+1) l):=by
   obtain⟨a,b,rfl⟩:=List.append_of_mem hk;simp only[dfs,List.flatMap_append,List.flatMap_cons];exact(List.sublist_append_left _ _).trans (List.sublist_append_right _ _)
  refine List.Sublist.trans ?_ hin;rcases hy with rfl|hy
  ·by_cases hf:0<f
   ·exact List.Sublist.cons_cons y (Jq f _ hf)
   ·have:ch y=[]:=by
     cases hy:ch y with
     |nil=>rfl
     |cons z l=>have:=hc y z (by rw[hy];simp);omega
    rw[this];simp
  ·exact(CO hc f (ch k) (fun z hz=>⟨(hc k z hz).1,by have:=(hc k z hz).2;omega⟩) y hy).cons k
def uN(t:Tre):List Int:=dfs (ae t.nodes) t.nodes.length [t.root]
theorem nF(N:Nat)(x:Int):((List.range N).map Int.ofNat).count x=if 0≤x∧x<N then 1 else 0:=by
 have hnd:((List.range N).map Int.ofNat).Nodup:=by
  refine List.Pairwise.map _ (fun a b (h:a≠b)=>?_) List.nodup_range;exact fun e=>h (Int.ofNat.inj e)
 by_cases h:0≤x∧x<N
 ·rw[if_pos h,hnd.count,if_pos];refine List.mem_map.2 ⟨x.toNat,List.mem_range.2 (by omega),?_⟩;show((x.toNat:Nat):Int)=x
  omega
 ·rw[if_neg h];refine List.count_eq_zero.2 fun hm=>h ?_
  obtain⟨y,hy,rfl⟩:=List.mem_map.1 hm;have:=List.mem_range.1 hy;exact⟨Int.natCast_nonneg y,by show((y:Nat):Int)<N;omega⟩
theorem lO{t:Tre}(h:av t):∀(d:Nat) (x:Int),0≤x→x<t.nodes.length→t.nodes.length≤x.toNat+d→(uN t).count x=1
 |0,x,h0,h1,h2=>by omega
 |d+1,x,h0,h1,h2=>by
  have hc:=h.kok.ae;have hl:∀k∈[t.root],0≤k∧k<(t.nodes.length:Int):=by
   intro k hk;simp at hk;subst hk;exact h.root
  have e:=vw hc x t.nodes.length [t.root] hl;have hf:∀D:List Int,(D.flatMap (ae t.nodes)).count x=((D.filter (fun y=>decide (x<y))).flatMap (ae t.nodes)).count x:=by
   intro D
   induction D with
   |nil=>rfl
   |cons y D ih=>
    rw[List.flatMap_cons,List.count_append,ih,List.filter_cons]
    by_cases hy:x<y
    ·simp[hy]
    ·simp only[hy,decide_false,Bool.false_eq_true,if_false];have:(ae t.nodes y).count x=0:=List.count_eq_zero.2 fun hm=>by have:=(hc y x hm).2;omega
     omega
  have hp:((dfs (ae t.nodes) t.nodes.length [t.root]).filter (fun y=>decide (x<y))).Perm (((List.range t.nodes.length).map Int.ofNat).filter (fun y=>decide (x<y))):=by
   rw[List.perm_iff_count];intro y
   by_cases hy:x<y
   ·rw[List.count_filter (by simpa using hy),List.count_filter (by simpa using hy),nF]
    by_cases hn:y<t.nodes.length
    ·rw[if_pos ⟨by omega,hn⟩];exact lO h d y (by omega) hn (by omega)
    ·rw[if_neg (by omega)];exact List.count_eq_zero.2 fun hm=>hn (eX hc _ _ hl y hm).2
   ·rw[List.count_eq_zero.2 (fun hm=>by have:=(List.mem_filter.1 hm).2;simp at this;omega),List.count_eq_zero.2 (fun hm=>by have:=(List.mem_filter.1 hm).2;simp at this;omega)]
  have e2:=(hp.flatMap_right (ae t.nodes)).count_eq x;rw[←hf,←hf,uH]at e2;have e3:=h.count x.toNat (by omega);rw[show((x.toNat:Nat):Int)=x by omega]at e3;unfold uN;rw[e,e2,e3,List.count_cons,List.count_nil]
  by_cases hr:x=t.root
  ·subst hr;simp
  ·have:(t.root==x)=false:=by simp;omega
   simp[hr,this]
structure Nt(t:Tre)(row:List Int):Prop where
 len:row.length=t.nodes.length
 head:row.head?=some t.root
 nodup:row.Nodup
 mem:∀x,x∈row↔0≤x∧x<t.nodes.length
 kids:∀(i:Nat) n,t.nodes[i]?=some n→((i:Int)::n.kids).Sublist row
theorem kM{t:Tre}(h:av t):Nt t (uN t):=by
 have hc:=h.kok.ae;have hl:∀k∈[t.root],0≤k∧k<(t.nodes.length:Int):=by
  intro k hk;simp at hk;subst hk;exact h.root
 have hmem:∀x,x∈uN t↔0≤x∧x<t.nodes.length:=by
  intro x;refine⟨fun hx=>eX hc _ _ hl x hx,fun hx=>?_⟩;have:=lO h t.nodes.length x hx.1 hx.2 (by omega);exact List.count_pos_iff.1 (by omega)
 have hp:(uN t).Perm ((List.range t.nodes.length).map Int.ofNat):=by
  rw[List.perm_iff_count];intro y;rw[nF]
  by_cases hy:0≤y∧y<t.nodes.length
  ·rw[if_pos hy];exact lO h t.nodes.length y hy.1 hy.2 (by omega)
  ·rw[if_neg hy];exact List.count_eq_zero.2 fun hm=>hy ((hmem y).1 hm)
 refine⟨by rw[hp.length_eq];simp,?_,?_,hmem,fun i n hn=>?_⟩
 ·unfold uN;rw[aQ hc h.root.1 h.root.2];rfl
 ·rw[hp.nodup_iff];refine List.Pairwise.map _ (fun a b (h:a≠b)=>?_) List.nodup_range;exact fun e=>h (Int.ofNat.inj e)
 ·have hi:=(List.getElem?_eq_some_iff.1 hn).1;rw[aF hn];exact CO hc _ _ hl i ((hmem i).2 ⟨by omega,by omega⟩)
def aT(t:Tre)(node:Int):List Int:=iN (ae t.nodes) t.nodes.length [node]
def a9(ns:List Nod):Nat→List Int→List Int→List Nod
 |_,_,[]=>[]
 |i,place,k::l=>
  { ns.getD k.toNat .zero with kids:=(ns.getD k.toNat .zero).kids.map fun x=>(place.set k.toNat i).getD x.toNat 0 }::a9 ns (i+1) (place.set k.toNat i) l
def aD(t:Tre)(node:Int):Tre:=⟨a9 t.nodes 0 (List.replicate t.nodes.length 0) (aT t node),(aT t node).length-1⟩
def bo(ns:List Nod)(by_:Int):List Nod:=ns.map fun n=>{ n with kids:=n.kids.map (· + by_) }
def iJ:List Tre→List Nod→List Int→Option (List Nod×List Int)
 |[],a,l=>some (a,l)
 |k::ks,a,l=>if au k=true then iJ ks (a++bo (aD k k.root).nodes a.length) (l++[((a.length+(aD k k.root).nodes.length:Nat):Int)-1])else none
def ofP(n:Nod)(kids:List Tre):Tre×Bool:=
 if fits n kids.length=true then match iJ kids [] []with
  |some (a,l)=>(⟨a++[{ n with kids:=l }],a.length⟩,true)
  |none=>(.zero,false)
 else(.zero,false)
def aJ(t:Tre):Tre:=if au t=true then aD t t.root else .zero
def Dm(a b:Tre):Bool:=decide (a.nodes.length=b.nodes.length)&&au a&&au b&&decide ((aD a a.root).nodes=(aD b b.root).nodes)
def lh(t:Tre):Int:=if au t=true then t.nodes.length else 0
def jr(deep:List Int)(d:Int):List Int→Int
 |[]=>d
 |k::l=>jr deep (max d (deep.getD k.toNat 0)) l
def mU:List Nod→List Int→List Int
 |[],deep=>deep
 |n::l,deep=>mU l (deep++[jr deep 0 n.kids+1])
def nC(t:Tre):Int:=if au t=true then(mU t.nodes []).getD t.root.toNat 0 else 0
def rG(t:Tre):Bool:=decide (t.nodes.length≤1024)&&au t&&decide (nC t≤32)
def qO(n:Nod):Tre:=⟨[n],0⟩
def dN:Nod:=⟨0,.zero,⟨#[]⟩,0,0,[]⟩
theorem tn(ch:Int→List Int):∀(f:Nat) (l:List Int) (x:Int),(iN ch f l).count x=(dfs ch f l).count x
 |0,l,x=>rfl
 |f+1,l,x=>by
  induction l with
  |nil=>rfl
  |cons k l ih=>
   simp only[dfs,iN,List.flatMap_cons,List.count_append,List.count_cons,List.count_nil]at ih ⊢;have:=tn ch f (ch k) x;omega
theorem cV(ch:Int→List Int)(f:Nat)(l:List Int):(iN ch f l).Perm (dfs ch f l):=List.perm_iff_count.2 (tn ch f l)
theorem gT(ns:List Nod):∀(l:List Int) (i:Nat) (pl:List Int),(a9 ns i pl l).length=l.length
 |[],_,_=>rfl
 |k::l,i,pl=>by simp[a9,gT ns l]
theorem ib{ch:Int→List Int}(hc:bD ch)(f:Nat):∀(m:Nat) (l:List Int),(∀k∈l,0≤k∧k<m)→m≤f→∀y∈dfs ch f l,(dfs ch f [y]).length≤(dfs ch f l).length
 |0,l,h,hf,y,hy=>by
  cases l with
  |nil=>rw[bK]at hy;cases hy
  |cons k l=>have:=h k (by simp);omega
 |m+1,l,h,hf,y,hy=>by
  induction l with
  |nil=>rw[bK]at hy;cases hy
  |cons k l ih=>
   have hk:=h k (by simp);rw[aQ hc hk.1 (by omega)]at hy ⊢;have ih:=ih (fun z hz=>h z (by simp[hz]));simp only[List.length_cons,List.length_append];rcases List.mem_cons.1 hy with rfl|hy
   ·rw[aQ hc hk.1 (by omega),bK];simp
   ·rcases List.mem_append.1 hy with hy|hy
    ·have:=ib hc f m (ch k) (fun z hz=>⟨(hc k z hz).1,by have:=(hc k z hz).2;omega⟩) (by omega) y hy;omega
    ·have:=ih hy;omega
theorem La{t:Tre}(h:av t){node:Int}(h0:0≤node)(hn:node<t.nodes.length):(dfs (ae t.nodes) t.nodes.length [node]).length≤t.nodes.length:=by
 have hr:=kM h;have:=ib h.kok.ae t.nodes.length t.nodes.length [t.root] (by intro k hk;simp at hk;subst hk;exact h.root) (Nat.le_refl _) node ((hr.mem node).2 ⟨h0,hn⟩);have e:(dfs (ae t.nodes) t.nodes.length [t.root]).length=t.nodes.length:=hr.len;omega
theorem fA{t:Tre}(h:av t){node:Int}(h0:0≤node)(hn:node<t.nodes.length):(aT t node).length≤t.nodes.length:=by
 rw[aT,(cV _ _ _).length_eq];exact La h h0 hn
theorem sG{t:Tre}(h:av t){node:Int}(h0:0≤node)(hn:node<t.nodes.length):∀x∈aT t node,0≤x∧x<t.nodes.length:=by
 intro x hx;rw[aT,(cV _ _ _).mem_iff]at hx;exact eX h.kok.ae _ _ (by intro k hk;simp at hk;subst hk;exact⟨h0,hn⟩) x hx
inductive Fo where
 |nil
 |cons (n:Nod) (k r:Fo)
deriving DecidableEq
def Fo.size:Fo→Nat
 |nil=>0
 |cons _ k r=>k.size+1+r.size
def Fo.len:Fo→Nat
 |nil=>0
 |cons _ _ r=>r.len+1
def Fo.bh:Nat→Fo→List Int
 |_,nil=>[]
 |o,cons _ k r=>((o+k.size:Nat):Int)::r.bh (o+k.size+1)
def Fo.ar:Nat→Fo→List Nod
 |_,nil=>[]
 |o,cons n k r=>k.ar o++{ n with kids:=k.bh o }::r.ar (o+k.size+1)
def Fo.fit:Fo→Bool
 |nil=>true
 |cons n k r=>fits n k.len&&k.fit&&r.fit
def Fo.bare:Fo→Prop
 |nil=>True
 |cons n k r=>n.kids=[]∧k.bare∧r.bare
def Fo.depth:Fo→Int
 |nil=>0
 |cons _ k r=>max (k.depth+1) r.depth
def Fo.app:Fo→Fo→Fo
 |nil,g=>g
 |cons n k r,g=>cons n k (r.app g)
def dat(ns:List Nod)(k:Int):Nod:={ ns.getD k.toNat .zero with kids:=[] }
def aA(ns:List Nod):Nat→List Int→Fo
 |0,_=>.nil
 |f+1,l=>l.foldr (fun k r=>.cons (dat ns k) (aA ns f (ae ns k)) r) .nil
def foT(t:Tre):Fo:=aA t.nodes t.nodes.length [t.root]
def cj(F:Fo):Tre:=⟨F.ar 0,(F.size:Int)-1⟩
theorem lS(n:Nod)(ks:List Int)(c:Int):fits { n with kids:=ks } c=fits n c:=rfl
theorem ay(ns:List Nod)(f:Nat):aA ns f []=.nil:=by cases f<;>rfl
theorem aK(ns:List Nod)(f:Nat)(k:Int)(l:List Int):aA ns (f+1) (k::l)=.cons (dat ns k) (aA ns f (ae ns k)) (aA ns (f+1) l):=rfl
theorem Fo.bM:∀(F:Fo) (o:Nat),(F.ar o).length=F.size
 |nil,_=>rfl
 |cons n k r,o=>by simp[ar,size,bM k,bM r];omega
theorem Fo.fh:∀(F:Fo) (o:Nat),(F.bh o).length=F.len
 |nil,_=>rfl
 |cons n k r,o=>by simp[bh,len,fh r]
theorem Fo.tA:∀(F:Fo) (o:Nat),∀x∈F.bh o,(o:Int)≤x∧x<((o+F.size:Nat):Int)
 |nil,_,x,h=>by simp[bh]at h
 |cons n k r,o,x,h=>by
  simp only[bh,List.mem_cons]at h;simp only[size];rcases h with rfl|h
  ·omega
  ·have:=tA r _ x h;omega
theorem gG(ns:List Nod):∀(f:Nat) (l:List Int),(aA ns f l).bare
 |0,l=>trivial
 |f+1,l=>by
  induction l with
  |nil=>exact trivial
  |cons k l ih=>exact⟨rfl,gG ns f _,ih⟩
theorem x4(ns:List Nod):∀(f:Nat) (l:List Int),0<f→(aA ns f l).len=l.length
 |0,l,h=>by omega
 |f+1,l,h=>by
  induction l with
  |nil=>rfl
  |cons k l ih=>rw[aK,Fo.len,ih];rfl
theorem dU{ns:List Nod}(h:bD (ae ns)):∀(f g:Nat) (l:List Int),(∀k∈l,0≤k∧k<f)→(∀k∈l,k<g)→aA ns f l=aA ns g l
 |0,g,l,hf,hg=>by
  cases l with
  |nil=>rw[ay,ay]
  |cons k l=>have:=hf k (by simp);omega
 |f+1,0,l,hf,hg=>by
  cases l with
  |nil=>rw[ay,ay]
  |cons k l=>
   have:=hf k (by simp);have:=hg k (by simp);omega
 |f+1,g+1,l,hf,hg=>by
  induction l with
  |nil=>rfl
  |cons k l ih=>
   have h1:=hf k (by simp);have h2:=hg k (by simp);rw[aK,aK,ih (fun x hx=>hf x (by simp[hx])) (fun x hx=>hg x (by simp[hx])),
    dU h f g (ae ns k) (fun x hx=>⟨(h k x hx).1,by have:=(h k x hx).2;omega⟩) (fun x hx=>by have:=(h k x hx).2;omega)]
theorem pO(l:List Int)(i j:Nat)(b:Int):(l.set i b).getD j 0=if i=j∧i<l.length then b else l.getD j 0:=by
 simp only[List.getD_eq_getElem?_getD,List.getElem?_set]
 by_cases h:i=j
 ·subst h
  by_cases hl:i<l.length
  ·simp[hl]
  ·simp[hl]
 ·simp[h]
theorem jM{ns:List Nod}(hc:bD (ae ns)):∀(f:Nat) (l:List Int) (i:Nat) (pl rest:List Int),(∀k∈l,0≤k∧k<f)→f≤ns.length→pl.length=ns.length→(iN (ae ns) f l).Nodup→
  ∃pl':List Int,pl'.length=ns.length∧a9 ns i pl (iN (ae ns) f l++rest)=(aA ns f l).ar i++a9 ns (i+(aA ns f l).size) pl' rest∧
   (l.map fun x=>pl'.getD x.toNat 0)=(aA ns f l).bh i∧∀x:Int,0≤x→x ∉ iN (ae ns) f l→pl'.getD x.toNat 0=pl.getD x.toNat 0
 |0,l,i,pl,rest,hl,hf,hp,hn=>by
  cases l with
  |nil=>exact⟨pl,hp,by simp[zi,ay,Fo.ar,Fo.size],rfl,fun _ _ _=>rfl⟩
  |cons k l=>have:=hl k (by simp);omega
 |f+1,[],i,pl,rest,hl,hf,hp,hn=>⟨pl,hp,by simp[zi,ay,Fo.ar,Fo.size],rfl,fun _ _ _=>rfl⟩
 |f+1,k::l,i,pl,rest,hl,hf,hp,hn=>by
  have hk:=hl k (by simp);have hchk:∀x∈ae ns k,0≤x∧x<(f:Int):=fun x hx=>⟨(hc k x hx).1,by have:=(hc k x hx).2;omega⟩
  have e:iN (ae ns) (f+1) (k::l)=iN (ae ns) f (ae ns k)++(k::iN (ae ns) (f+1) l):=by simp[iN]
  rw[e]at hn ⊢;obtain⟨n1,n2,n3⟩:=List.nodup_append.1 hn;obtain⟨n4,n5⟩:=List.nodup_cons.1 n2;obtain⟨p1,q1,q2,q3,q4⟩:=jM hc f (ae ns k) i pl (k::iN (ae ns) (f+1) l++rest) hchk (by omega) hp n1;have hkl:k.toNat<p1.length:=by omega
  obtain⟨p2,r1,r2,r3,r4⟩:=jM hc (f+1) l (i+(aA ns f (ae ns k)).size+1) (p1.set k.toNat ((i+(aA ns f (ae ns k)).size:Nat):Int)) rest (fun x hx=>hl x (by simp[hx])) hf (by simpa using q1) n5;have hkd:ns.getD k.toNat .zero={ dat ns k with kids:=ae ns k }:=by
   have:k.toNat<ns.length:=by omega
   have h2:=List.getElem?_eq_getElem this;have h3:=aF h2;rw[show((k.toNat:Nat):Int)=k by omega]at h3;simp only[dat,List.getD_eq_getElem?_getD,h2,Option.getD_some];rw[←h3]
  have hks:(ae ns k).map (fun x=>(p1.set k.toNat ((i+(aA ns f (ae ns k)).size:Nat):Int)).getD x.toNat 0)=(aA ns f (ae ns k)).bh i:=by
   rw[←q3];apply List.map_congr_left;intro x hx;have:=hchk x hx;have:=(hc k x hx).2;rw[pO,if_neg (by omega)]
  refine⟨p2,r1,?_,?_,?_⟩
  ·rw[List.append_assoc,q2];simp only[List.cons_append,a9];rw[r2,hkd,aK];simp only[Fo.ar,Fo.size,hks,List.append_assoc,List.cons_append];rw[show i+((aA ns f (ae ns k)).size+1+(aA ns (f+1) l).size)=i+(aA ns f (ae ns k)).size+1+(aA ns (f+1) l).size by omega]
  ·rw[aK,Fo.bh,List.map_cons,r3,r4 k hk.1 n4,pO,if_pos ⟨rfl,hkl⟩]
  ·intro x h0 hx;simp only[List.mem_append,List.mem_cons,not_or]at hx;rw[r4 x h0 hx.2.2,pO,if_neg (by omega),q4 x h0 hx.1]
theorem jy(ns:List Nod):∀(f:Nat) (l:List Int),(aA ns f l).size=(iN (ae ns) f l).length
 |0,l=>rfl
 |f+1,l=>by
  induction l with
  |nil=>rfl
  |cons k l ih=>
   rw[aK,Fo.size,ih,jy ns f];simp[iN];omega
theorem wI{t:Tre}(h:av t){node:Int}(h0:0≤node)(hn:node<t.nodes.length):(iN (ae t.nodes) t.nodes.length [node]).Nodup:=by
 rw[(cV _ _ _).nodup_iff];have hr:=kM h;have key:∀(m:Nat) (l:List Int),(∀k∈l,0≤k∧k<m)→m≤t.nodes.length→(dfs (ae t.nodes) t.nodes.length l).Nodup→∀y∈dfs (ae t.nodes) t.nodes.length l,(dfs (ae t.nodes) t.nodes.length [y]).Nodup:=by
  intro m
  induction m with
  |zero=>
   intro l hl _ _ y hy
   cases l with
   |nil=>rw[bK]at hy;cases hy
   |cons k l=>have:=hl k (by simp);omega
  |succ m ihm=>
   intro l hl hm hnd y hy
   induction l with
   |nil=>rw[bK]at hy;cases hy
   |cons k l ih=>
    have hk:=hl k (by simp);rw[aQ h.kok.ae hk.1 (by omega)]at hy hnd;obtain⟨a1,a2⟩:=List.nodup_cons.1 hnd;obtain⟨b1,b2,b3⟩:=List.nodup_append.1 a2;rcases List.mem_cons.1 hy with rfl|hy
    ·rw[aQ h.kok.ae hk.1 (by omega),bK,List.append_nil];exact List.nodup_cons.2 ⟨fun hh=>a1 (by simp[hh]),b1⟩
    ·rcases List.mem_append.1 hy with hy|hy
     ·exact ihm (ae t.nodes k) (fun x hx=>⟨(h.kok.ae k x hx).1,by have:=(h.kok.ae k x hx).2;omega⟩) (by omega) b1 y hy
     ·exact ih (fun x hx=>hl x (by simp[hx])) b2 hy
 exact key t.nodes.length [t.root] (by intro k hk;simp at hk;subst hk;exact h.root) (Nat.le_refl _) hr.nodup node ((hr.mem node).2 ⟨h0,hn⟩)
theorem iU{t:Tre}(h:av t){node:Int}(h0:0≤node)(hn:node<t.nodes.length):aD t node=cj (aA t.nodes t.nodes.length [node]):=by
 obtain⟨pl,h1,h2,h3,h4⟩:=jM h.kok.ae t.nodes.length [node] 0 (List.replicate t.nodes.length 0) [] (by intro k hk;simp at hk;subst hk;exact⟨h0,hn⟩) (Nat.le_refl _) (by simp) (wI h h0 hn);unfold aD cj aT;rw[jy];simp only[List.append_nil]at h2;rw[h2];simp[a9]
theorem xm:∀(F:Fo),F.bare→∀(f:Nat) (pre post:List Nod),pre.length+F.size≤f→aA (pre++(F.ar pre.length++post)) f (F.bh pre.length)=F
 |.nil,_,f,pre,post,_=>by simp[Fo.bh,ay]
 |.cons n k r,hb,0,pre,post,hf=>by simp[Fo.size]at hf
 |.cons n k r,hb,f+1,pre,post,hf=>by
  obtain⟨b1,b2,b3⟩:=hb;simp only[Fo.size]at hf;have ek:=xm k b2 f pre ({ n with kids:=k.bh pre.length }::r.ar (pre.length+k.size+1)++post) (by omega);have el:(pre++(k.ar pre.length++[{ n with kids:=k.bh pre.length }])).length=pre.length+k.size+1:=by simp[Fo.bM];omega
  have er:=xm r b3 (f+1) (pre++(k.ar pre.length++[{ n with kids:=k.bh pre.length }])) post (by rw[el];omega);rw[el]at er;have e1:pre++((Fo.cons n k r).ar pre.length++post)=pre++(k.ar pre.length++({ n with kids:=k.bh pre.length }::r.ar (pre.length+k.size+1)++post)):=by simp[Fo.ar]
  have e2:pre++((Fo.cons n k r).ar pre.length++post)=pre++(k.ar pre.length++[{ n with kids:=k.bh pre.length }])++(r.ar (pre.length+k.size+1)++post):=by simp[Fo.ar]
  rw[←e1]at ek;rw[←e2]at er;have hget:(pre++((Fo.cons n k r).ar pre.length++post))[pre.length+k.size]?=some { n with kids:=k.bh pre.length }:=by
   rw[e1,List.getElem?_append_right (by omega),Nat.add_sub_cancel_left,List.getElem?_append_right (by rw[Fo.bM];omega),Fo.bM,Nat.sub_self];rfl
  have hch:=aF hget;simp only at hch;rw[Fo.bh,aK,er,←hch,ek]
  congr 1
  simp only[dat,Int.toNat_natCast,List.getD_eq_getElem?_getD,hget,Option.getD_some];rw[←b1]
theorem oR{n:Nod}{k:Fo}(hb:(Fo.cons n k .nil).bare):foT (cj (.cons n k .nil))=.cons n k .nil:=by
 have h:=xm (.cons n k .nil) hb ((Fo.cons n k .nil).ar 0).length [] [] (by simp[Fo.bM]);simp only[List.length_nil,List.nil_append,List.append_nil]at h;unfold foT cj;simp only;conv=>rhs;rw[←h]
 congr 1
 simp only[Fo.bh,Fo.size]
 congr 1
 omega
theorem mQ(i:Int):∀(l:List Int) (tk:List Bool),i≤tk.length→(∀k∈l,0≤k∧k<i)→(∀j:Nat,(tk.getD j false).toNat+l.count (j:Int)≤1)→∃tk',b4 i l tk=some tk'
 |[],tk,_,_,_=>⟨tk,rfl⟩
 |k::l,tk,hi,hk,hc=>by
  have h0:=hk k (by simp);have hck:=hc k.toNat;rw[show((k.toNat:Nat):Int)=k by omega,List.count_cons,beq_self_eq_true,if_pos rfl]at hck;have htk:tk.getD k.toNat false=false:=by
   cases hh:tk.getD k.toNat false with
   |false=>rfl
   |true=>rw[hh]at hck;simp at hck;omega
  unfold b4;rw[if_neg (by rw[htk];simp;omega)];refine mQ i l _ (by simpa using hi) (fun x hx=>hk x (by simp[hx])) (fun j=>?_);have hcj:=hc j;rw[zG _ _ _ _ (by omega)];rw[List.count_cons]at hcj
  by_cases hj:k.toNat=j
  ·subst hj;rw[if_pos rfl];rw[show((k.toNat:Nat):Int)=k by omega]at hcj ⊢;simp at hcj ⊢;omega
  ·rw[if_neg hj];have:(k==(j:Int))=false:=by simp;omega
   rw[this]at hcj;simpa using hcj
def NOk(i:Nat)(l:List Nod):Prop:=∀(j:Nat) n,l[j]?=some n→fits n n.kids.length=true∧∀k∈n.kids,0≤k∧k<((i+j:Nat):Int)
theorem kp:∀(l:List Nod) (i:Nat) (tk:List Bool),i+l.length≤tk.length→NOk i l→(∀j:Nat,(tk.getD j false).toNat+(az l).count (j:Int)≤1)→∃tk',cn i l tk=some tk'
 |[],i,tk,_,_,_=>⟨tk,rfl⟩
 |n::l,i,tk,hi,hn,hc=>by
  simp only[List.length_cons]at hi;have h0:=hn 0 n rfl;simp only[az,List.flatMap_cons,List.count_append]at hc;obtain⟨t1,ht1⟩:=mQ i n.kids tk (by omega) (fun k hk=>by have:=h0.2 k hk;omega) (fun j=>by have:=hc j;omega);have hl:=jJ i _ _ _ ht1;obtain⟨_,a2⟩:=gV i n.kids tk t1 (by omega) ht1;obtain⟨t2,ht2⟩:=kp l (i+1) t1 (by omega) (fun j m hj=>⟨(hn (j+1) m (by simpa using hj)).1,fun k hk=>by have:=(hn (j+1) m (by simpa using hj)).2 k hk;omega⟩)
   (fun j=>by rw[a2 j];have:=hc j;simp only[az];omega)
  refine⟨t2,?_⟩;unfold cn;rw[if_pos h0.1,ht1];exact ht2
theorem qb{t:Tre}(hr:0≤t.root∧t.root<t.nodes.length)(hn:NOk 0 t.nodes)(hc:∀i:Nat,i<t.nodes.length→(az t.nodes).count (i:Int)=if(i:Int)=t.root then 0 else 1):au t=true:=by
 have hz:∀j,(List.replicate t.nodes.length false).getD j false=false:=fun j=>by simp[List.getD_eq_getElem?_getD,List.getElem?_replicate];split<;>rfl
 have hle:∀j:Nat,(az t.nodes).count (j:Int)≤1:=by
  intro j
  by_cases hj:j<t.nodes.length
  ·rw[hc j hj];split<;>omega
  ·rw[List.count_eq_zero.2]
   ·omega
   ·intro hm;obtain⟨n,hn1,hn2⟩:=List.mem_flatMap.1 hm;obtain⟨i,hi⟩:=List.mem_iff_getElem?.1 hn1;have:=(hn i n hi).2 _ hn2;have:=(List.getElem?_eq_some_iff.1 hi).1;omega
 obtain⟨tk,htk⟩:=kp t.nodes 0 (List.replicate t.nodes.length false) (by simp) hn (fun j=>by rw[hz];have:=hle j;simpa using this);obtain⟨_,b⟩:=gp t.nodes 0 _ _ (by simp) htk;unfold au;rw[htk];simp only[Bool.and_eq_true,decide_eq_true_eq];refine⟨⟨hr.1,hr.2⟩,?_⟩;rw[List.all_eq_true];intro i hi;have hi:i<t.nodes.length:=by simpa using hi
 have hb:=b i;rw[hz,hc i hi]at hb
 by_cases h:(i:Int)=t.root
 ·rw[if_pos h]at hb;simp only[h,decide_true]
  cases hv:tk.getD i false with
  |false=>rfl
  |true=>rw[hv]at hb;simp at hb
 ·rw[if_neg h]at hb;simp only[h,decide_false]
  cases hv:tk.getD i false with
  |false=>rw[hv]at hb;simp at hb
  |true=>rfl
theorem av.right{t:Tre}(h:av t):au t=true:=
 qb h.root (fun i n hi=>⟨h.fits i n hi,fun k hk=>by have:=h.kok i n hi k hk;omega⟩) h.count
theorem tP{t:Tre}:au t=true↔av t:=⟨ao,av.right⟩
theorem NOk.app{i:Nat}{a b:List Nod}(ha:NOk i a)(hb:NOk (i+a.length) b):NOk i (a++b):=by
 intro j n hj
 by_cases h:j<a.length
 ·rw[List.getElem?_append_left h]at hj;exact ha j n hj
 ·rw[List.getElem?_append_right (by omega)]at hj;obtain⟨h1,h2⟩:=hb _ n hj;exact⟨h1,fun k hk=>by have:=h2 k hk;omega⟩
theorem Fo.nok:∀(F:Fo) (o:Nat),F.fit=true→NOk o (F.ar o)
 |nil,o,_=>fun j n h=>by simp[ar]at h
 |cons n k r,o,h=>by
  simp only[fit,Bool.and_eq_true]at h;have hk:=nok k o h.1.2;have hr:=nok r (o+k.size+1) h.2;rw[ar];refine hk.app ?_;rw[show({ n with kids:=k.bh o }::r.ar (o+k.size+1))=[{ n with kids:=k.bh o }]++r.ar (o+k.size+1)from rfl];refine NOk.app ?_ (by rw[bM];simpa [Nat.add_assoc]using hr);intro j m hj
  cases j with
  |zero=>
   simp at hj;subst hj;refine⟨by rw[lS,fh];exact h.1.1,fun x hx=>?_⟩;have:=tA k o x hx;rw[bM];omega
  |succ j=>simp at hj
theorem Fo.counts:∀(F:Fo) (o:Nat) (x:Int),(az (F.ar o)).count x+(F.bh o).count x=if(o:Int)≤x∧x<((o+F.size:Nat):Int)then 1 else 0
 |nil,o,x=>by
  rw[if_neg (by simp only[size];omega)];rfl
 |cons n k r,o,x=>by
  have hk:=counts k o x;have hr:=counts r (o+k.size+1) x;have e:az ((Fo.cons n k r).ar o)=az (k.ar o)++(k.bh o++az (r.ar (o+k.size+1))):=by simp[az,ar]
  rw[e,bh,List.count_append,List.count_append,List.count_cons,size]
  by_cases h:((o+k.size:Nat):Int)=x
  ·rw[if_neg (by omega)]at hk hr;have hb:(((o+k.size:Nat):Int)==x)=true:=by simpa using h
   rw[hb,if_pos rfl,if_pos (by omega)];omega
  ·have hb:(((o+k.size:Nat):Int)==x)=false:=by simpa using h
   rw[hb];simp only[Bool.false_eq_true,if_false]
   by_cases h1:(o:Int)≤x∧x<((o+k.size:Nat):Int)
   ·rw[if_pos h1]at hk;rw[if_neg (by omega)]at hr;rw[if_pos (by omega)];omega
   ·rw[if_neg h1]at hk
    by_cases h2:((o+k.size+1:Nat):Int)≤x∧x<((o+k.size+1+r.size:Nat):Int)
    ·rw[if_pos h2]at hr;rw[if_pos (by omega)];omega
    ·rw[if_neg h2]at hr;rw[if_neg (by omega)];omega
theorem gP{n:Nod}{k:Fo}(h:(Fo.cons n k .nil).fit=true):au (cj (.cons n k .nil))=true:=by
 have hl:=Fo.bM (.cons n k .nil) 0;refine qb ?_ (Fo.nok _ 0 h) (fun i hi=>?_)
 ·simp only[cj,hl,Fo.size];omega
 ·have hc:=Fo.counts (.cons n k .nil) 0 (i:Int);have hi:i<(Fo.cons n k .nil).size:=by rw[←hl];exact hi
  show(az ((Fo.cons n k .nil).ar 0)).count (i:Int)=if(i:Int)=((Fo.cons n k .nil).size:Int)-1 then 0 else 1
  rw[if_pos (by omega)]at hc;simp only[Fo.bh,List.count_cons,List.count_nil]at hc;have hsz:((Fo.cons n k .nil).size:Int)-1=(k.size:Int):=by simp only[Fo.size];omega
  by_cases he:(i:Int)=(k.size:Int)
  ·rw[if_pos (he.trans hsz.symm)];have:(((0+k.size:Nat):Int)==(i:Int))=true:=by simp;omega
   rw[this]at hc;simp at hc;exact hc
  ·rw[if_neg (fun e=>he (e.trans hsz))];have:(((0+k.size:Nat):Int)==(i:Int))=false:=by simp;omega
   rw[this]at hc;simpa using hc
theorem kH{t:Tre}(h:av t):∀(f:Nat) (l:List Int),(∀k∈l,0≤k∧k<f)→f≤t.nodes.length→(aA t.nodes f l).fit=true
 |0,l,_,_=>rfl
 |f+1,l,hl,hf=>by
  induction l with
  |nil=>rfl
  |cons k l ih=>
   have hk:=hl k (by simp);rw[aK,Fo.fit,ih (fun x hx=>hl x (by simp[hx])),kH h f _ (fun x hx=>⟨(h.kok.ae k x hx).1,by have:=(h.kok.ae k x hx).2;omega⟩) (by omega),Bool.and_true,Bool.and_true];have hlt:k.toNat<t.nodes.length:=by omega
   have hg:=List.getElem?_eq_getElem hlt;have h1:=h.fits _ _ hg;have h2:=aF hg;rw[show((k.toNat:Nat):Int)=k by omega]at h2;have hlen:(aA t.nodes f (ae t.nodes k)).len=(ae t.nodes k).length:=by
    cases f with
    |zero=>
     cases hc:ae t.nodes k with
     |nil=>rfl
     |cons x l=>
      have:=h.kok.ae k x (by rw[hc];simp);omega
    |succ f=>exact x4 _ _ _ (by omega)
   rw[hlen,←h2];simp only[dat,List.getD_eq_getElem?_getD,hg,Option.getD_some,lS];exact h1
theorem fO{t:Tre}(h:av t):∃n k,foT t=.cons n k .nil∧(Fo.cons n k .nil).bare∧(Fo.cons n k .nil).fit=true:=by
 have hb:=gG t.nodes t.nodes.length [t.root];have hf:=kH h t.nodes.length [t.root] (by intro k hk;simp at hk;subst hk;exact h.root) (Nat.le_refl _);unfold foT;have hp:0<t.nodes.length:=by have:=h.root;omega
 obtain⟨f,hf'⟩:∃f,t.nodes.length=f+1:=⟨t.nodes.length-1,by omega⟩
 rw[hf',aK,ay]at hb hf ⊢;exact⟨_,_,rfl,hb,hf⟩
theorem qB{t:Tre}(h:av t):aD t t.root=cj (foT t):=iU h h.root.1 h.root.2
theorem DU{t:Tre}(h:av t):av (cj (foT t))∧foT (cj (foT t))=foT t:=by
 obtain⟨n,k,e,hb,hf⟩:=fO h;rw[e];exact⟨ao (gP hf),oR hb⟩
theorem fa{t:Tre}(h:av t):(foT t).size=t.nodes.length:=by
 unfold foT;rw[jy,(cV _ _ _).length_eq];exact(kM h).len
theorem Fo.sE:∀(F:Fo) (o d:Nat),(F.bh o).map (· + (d:Int))=F.bh (o+d)
 |nil,_,_=>rfl
 |cons n k r,o,d=>by
  simp only[bh,List.map_cons,sE r];rw[show o+d+k.size+1=o+k.size+1+d by omega]
  congr 1
  omega
theorem Fo.lA:∀(F:Fo) (o d:Nat),bo (F.ar o) (d:Int)=F.ar (o+d)
 |nil,_,_=>rfl
 |cons n k r,o,d=>by
  have hk:=lA k o d;have hr:=lA r (o+k.size+1) d;simp only[bo]at hk hr;simp only[bo,ar,List.map_append,List.map_cons,hk,hr,sE];rw[show o+d+k.size+1=o+k.size+1+d by omega]
theorem Fo.wz:∀(F G:Fo) (o:Nat),(F.app G).ar o=F.ar o++G.ar (o+F.size)
 |nil,_,_=>by simp[app,ar,size]
 |cons n k r,G,o=>by
  simp only[app,ar,wz r G,size,List.append_assoc,List.cons_append];rw[show o+(k.size+1+r.size)=o+k.size+1+r.size by omega]
theorem Fo.nY:∀(F G:Fo) (o:Nat),(F.app G).bh o=F.bh o++G.bh (o+F.size)
 |nil,_,_=>by simp[app,bh,size]
 |cons n k r,G,o=>by
  simp only[app,bh,nY r G,size,List.cons_append];rw[show o+(k.size+1+r.size)=o+k.size+1+r.size by omega]
theorem Fo.bZ:∀(F G:Fo),(F.app G).size=F.size+G.size
 |nil,_=>by simp[app,size]
 |cons n k r,G=>by simp only[app,size,bZ r G];omega
theorem Fo.dS:∀(F G:Fo),(F.app G).len=F.len+G.len
 |nil,_=>by simp[app,len]
 |cons n k r,G=>by simp only[app,len,dS r G];omega
theorem Fo.Cz:∀(F G:Fo),(F.app G).fit=(F.fit&&G.fit)
 |nil,_=>by simp[app,fit]
 |cons n k r,G=>by simp only[app,fit,Cz r G,Bool.and_assoc]
theorem Fo.zq:∀(F G:Fo),(F.app G).bare↔F.bare∧G.bare
 |nil,_=>by simp[app,bare]
 |cons n k r,G=>by simp only[app,bare,zq r G,and_assoc]
def foL:List Tre→Fo
 |[]=>.nil
 |t::l=>(foT t).app (foL l)
theorem CL:∀(l:List Tre) (F:Fo),(∀t∈l,au t=true)→iJ l (F.ar 0) (F.bh 0)=some ((F.app (foL l)).ar 0,(F.app (foL l)).bh 0)
 |[],F,_=>by
  have e:∀F:Fo,F.app .nil=F:=by
   intro F
   induction F with
   |nil=>rfl
   |cons n k r _ ih=>rw[Fo.app,ih]
  simp[iJ,foL,e]
 |t::l,F,h=>by
  have ht:=h t (by simp);have hT:=ao ht;obtain⟨n,k,e,hb,hf⟩:=fO hT;have e1:F.ar 0++bo (aD t t.root).nodes ((F.ar 0).length)=(F.app (foT t)).ar 0:=by
   rw[qB hT,Fo.wz,Fo.bM]
   congr 1
   exact Fo.lA _ 0 _
  have e2:F.bh 0++[(((F.ar 0).length+(aD t t.root).nodes.length:Nat):Int)-1]=(F.app (foT t)).bh 0:=by
   rw[qB hT,Fo.nY,Fo.bM]
   congr 1
   simp only[cj,Fo.bM,e,Fo.bh,Fo.size]
   congr 1
   omega
  have ea:∀F G H:Fo,(F.app G).app H=F.app (G.app H):=by
   intro F G H
   induction F with
   |nil=>rfl
   |cons n k r _ ih=>simp only[Fo.app,ih]
  rw[iJ,if_pos ht,e1,e2,CL l _ (fun x hx=>h x (by simp[hx])),foL,ea]
theorem vT:∀(l:List Tre) (a:List Nod) (ks:List Int),(¬∀t∈l,au t=true)→iJ l a ks=none
 |[],_,_,h=>absurd (by simp) h
 |t::l,a,ks,h=>by
  unfold iJ
  split
  ·rename_i ht;refine vT l _ _ (fun h2=>h fun x hx=>?_);rcases List.mem_cons.1 hx with rfl|hx
   ·exact ht
   ·exact h2 x hx
  ·rfl
theorem xA{n:Nod}{l:List Tre}(hf:fits n l.length=true)(h:∀t∈l,au t=true):ofP n l=(cj (.cons { n with kids:=[] } (foL l) .nil),true):=by
 have hg:=CL l .nil h;simp only[Fo.ar,Fo.bh,Fo.app]at hg;unfold ofP;rw[if_pos hf,hg];simp only[cj,Fo.ar,Fo.size,Fo.bM]
 congr 2
 omega
theorem BL{n:Nod}{l:List Tre}(h:¬(fits n l.length=true∧∀t∈l,au t=true)):ofP n l=(.zero,false):=by
 unfold ofP
 split
 ·rename_i hf;rw[vT l [] [] (fun h2=>h ⟨hf,h2⟩)]
 ·rfl
theorem wQ:∀(l:List Tre),(∀t∈l,au t=true)→(foL l).len=l.length∧(foL l).fit=true∧(foL l).bare
 |[],_=>⟨rfl,rfl,trivial⟩
 |t::l,h=>by
  obtain⟨n,k,e,hb,hf⟩:=fO (ao (h t (by simp)));obtain⟨h1,h2,h3⟩:=wQ l (fun x hx=>h x (by simp[hx]));rw[foL,Fo.dS,Fo.Cz,Fo.zq,e,h1,h2];exact⟨by simp[Fo.len];omega,by rw[hf];rfl,hb,h3⟩
theorem D4{n:Nod}{l:List Tre}(hf:fits n l.length=true)(h:∀t∈l,au t=true) :
  av (ofP n l).1∧foT (ofP n l).1=.cons { n with kids:=[] } (foL l) .nil∧(ofP n l).2=true:=by
 obtain⟨h1,h2,h3⟩:=wQ l h;rw[xA hf h];refine⟨ao (gP ?_),oR ⟨rfl,h3,trivial⟩,rfl⟩;simp only[Fo.fit,h1,h2,Bool.and_true];exact hf
def dJ:Nat:=17592186044416
def bY:Nat:=1466015503701
def Bts.wf(b:Bts):Prop:=(0≤b.a∧b.a<18446744073709551616)∧(0≤b.b∧b.b<18446744073709551616)∧(0≤b.c∧b.c<18446744073709551616)∧(0≤b.d∧b.d<18446744073709551616)
def HL(xs:List Int):Prop:=xs.length≤dJ∧∀x∈xs,I64 x
structure Nod.wf(n:Nod):Prop where
 kind:0≤n.kind∧n.kind≤255
 set:n.set.wf
 text:n.text.size≤140737488355328
 min:I64 n.min
 max:I64 n.max
 kids:HL n.kids
structure Tre.wf(t:Tre):Prop where
 len:t.nodes.length≤bY
 nodes:∀n∈t.nodes,n.wf
 root:I64 t.root
theorem Nod.cS:Nod.zero.wf:=⟨by decide,by unfold Bts.wf;decide,by decide,by unfold I64;decide,by unfold I64;decide,⟨by decide,by simp[Nod.zero]⟩⟩
theorem tH{ns:List Nod}(hn:∀n∈ns,n.wf):∀(l:List Int) (i:Nat) (pl:List Int),(∀x∈pl,0≤x∧x<(bY:Int))→i+l.length≤bY→∀n∈a9 ns i pl l,n.wf∧∀k∈n.kids,0≤k∧k<(bY:Int)
 |[],_,_,_,_,n,h=>by simp[a9]at h
 |k::l,i,pl,hp,hi,n,h=>by
  simp only[List.length_cons]at hi;have hp':∀x∈pl.set k.toNat (i:Int),0≤x∧x<(bY:Int):=by
   intro x hx;rcases List.mem_or_eq_of_mem_set hx with hx|rfl
   ·exact hp x hx
   ·omega
  simp only[a9,List.mem_cons]at h;rcases h with rfl|h
  ·have hz:(ns.getD k.toNat .zero).wf:=by
    rw[List.getD_eq_getElem?_getD]
    cases hg:ns[k.toNat]? with
    |some m=>exact hn m (List.mem_of_getElem? hg)
    |none=>exact Nod.cS
   have hk:∀y∈(ns.getD k.toNat .zero).kids.map (fun x=>(pl.set k.toNat (i:Int)).getD x.toNat 0),0≤y∧y<(bY:Int):=by
    intro y hy;obtain⟨x,hx,rfl⟩:=List.mem_map.1 hy;rw[List.getD_eq_getElem?_getD]
    cases hg:(pl.set k.toNat (i:Int))[x.toNat]? with
    |some z=>exact hp' z (List.mem_of_getElem? hg)
    |none=>exact⟨by decide,by decide⟩
   exact⟨⟨hz.kind,hz.set,hz.text,hz.min,hz.max,by simpa using hz.kids.1,fun y hy=>by have:=hk y hy;unfold I64;unfold bY at this;omega⟩,hk⟩
  ·exact tH hn l (i+1) _ hp' (by omega) n h
theorem gH{t:Tre}(ht:t.wf)(h:av t){node:Int}(h0:0≤node)(hn:node<t.nodes.length):(aD t node).wf∧∀n∈(aD t node).nodes,∀k∈n.kids,0≤k∧k<(bY:Int):=by
 have hb:=fA h h0 hn;have hl:=ht.len;have hw:=tH ht.nodes (aT t node) 0 (List.replicate t.nodes.length 0) (fun x hx=>by rw[List.eq_of_mem_replicate hx];exact⟨by decide,by decide⟩) (by omega);refine⟨⟨?_,fun n hn=>(hw n hn).1,?_⟩,fun n hn=>(hw n hn).2⟩
 ·show(a9 _ _ _ _).length≤bY
  rw[gT];omega
 ·show I64 (((aT t node).length:Int)-1)
  unfold bY at hl;unfold I64;omega
theorem nm{t:Tre}(h:av t){node:Int}(h0:0≤node)(hn:node<t.nodes.length):(aD t node).nodes.length≤t.nodes.length:=by
 show(a9 _ _ _ _).length≤_
 rw[gT];exact fA h h0 hn
def tot(l:List Tre):Nat:=(l.map fun t=>t.nodes.length).sum
theorem oB(t:Tre)(l:List Tre):tot (t::l)=t.nodes.length+tot l:=by simp[tot]
theorem J1{α:Type}(D r:List α)(d d':α){i:Nat}(h:D.length=i):(D++d::r).set i d'=D++d'::r:=by
 subst h;rw[List.set_append_right _ _ (Nat.le_refl _),Nat.sub_self,List.set_cons_zero]
theorem Fo.xe:∀F:Fo,0≤F.depth
 |nil=>Int.le_refl _
 |cons n k r=>by
  have:=xe r;simp only[depth];omega
theorem Fh(ns:List Nod)(f:Nat)(k:Int)(l:List Int):aA ns (f+1) (k::l)=(aA ns (f+1) [k]).app (aA ns (f+1) l):=by
 rw[aK,aK,ay];rfl
def Fo.dwf:Fo→Prop
 |nil=>True
 |cons n k r=>({ n with kids:=[] }:Nod).wf∧k.dwf∧r.dwf
theorem Fo.oL:∀F G:Fo,(F.app G).dwf↔F.dwf∧G.dwf
 |nil,G=>by simp[app,dwf]
 |cons n k r,G=>by simp only[app,dwf,oL r G,and_assoc]
theorem Fo.xv:∀F:Fo,F.len≤F.size
 |nil=>Nat.le_refl _
 |cons n k r=>by have:=xv r;simp only[len,size];omega
theorem Fo.Fp:∀(F:Fo) (o:Nat),F.dwf→o+F.size≤bY→∀n∈F.ar o,n.wf
 |nil,o,_,_,n,h=>by simp[ar]at h
 |cons n k r,o,hd,hs,m,h=>by
  obtain⟨h1,h2,h3⟩:=hd;simp only[size]at hs;simp only[ar,List.mem_append,List.mem_cons]at h;rcases h with h|rfl|h
  ·exact Fp k o h2 (by omega) m h
  ·refine⟨h1.kind,h1.set,h1.text,h1.min,h1.max,?_,fun x hx=>?_⟩
   ·rw[fh];have:=xv k;unfold bY at hs;unfold dJ;omega
   ·have:=tA k o x hx;unfold bY at hs;unfold I64;omega
  ·exact Fp r _ h3 (by omega) m h
theorem Nod.wf.wf0{n:Nod}(h:n.wf):({ n with kids:=[] }:Nod).wf:=⟨h.kind,h.set,h.text,h.min,h.max,⟨by simp,by simp⟩⟩
theorem kU{ns:List Nod}(hn:∀n∈ns,n.wf):∀(f:Nat) (l:List Int),(aA ns f l).dwf
 |0,l=>trivial
 |f+1,l=>by
  induction l with
  |nil=>exact trivial
  |cons k l ih=>
   refine⟨?_,kU hn f _,ih⟩;show Nod.wf { ns.getD k.toNat .zero with kids:=[] }
   rw[List.getD_eq_getElem?_getD]
   cases hg:ns[k.toNat]? with
   |some m=>exact(hn m (List.mem_of_getElem? hg)).wf0
   |none=>exact Nod.cS.wf0
theorem xp:∀{l:List Tre},(∀t∈l,t.wf)→(foL l).dwf
 |[],_=>trivial
 |t::l,h=>(Fo.oL _ _).2 ⟨kU (h t (by simp)).nodes _ _,xp fun x hx=>h x (by simp[hx])⟩
theorem jw:∀{l:List Tre},(∀t∈l,au t=true)→(foL l).size=tot l
 |[],_=>rfl
 |t::l,h=>by rw[foL,Fo.bZ,oB,fa (ao (h t (by simp))),jw fun x hx=>h x (by simp[hx])]
theorem sq{F:Fo}(h:F.dwf)(hs:F.size≤bY):(cj F).wf:=by
 refine⟨by show(F.ar 0).length≤bY;rw[Fo.bM];exact hs,Fo.Fp F 0 h (by omega),?_⟩;show I64 ((F.size:Int)-1)
 unfold bY at hs;unfold I64;omega
theorem Tre.cS:Tre.zero.wf:=⟨by decide,by simp[Tre.zero],by unfold I64;decide⟩
theorem As{n:Nod}{l:List Tre}(hn:n.wf)(hl:∀t∈l,t.wf)(ht:tot l+1≤bY):(ofP n l).1.wf:=by
 by_cases h:fits n l.length=true∧∀t∈l,au t=true
 ·rw[xA h.1 h.2];refine sq ⟨hn.wf0,xp hl,trivial⟩ ?_;simp only[Fo.size,jw h.2];omega
 ·rw[BL h];exact Tre.cS
theorem IS{n:Nod}{l:List Tre}:(ofP n l).1.nodes.length≤tot l+1:=by
 by_cases h:fits n l.length=true∧∀t∈l,au t=true
 ·rw[xA h.1 h.2];show(Fo.ar 0 _).length≤_
  rw[Fo.bM];simp only[Fo.size,jw h.2];omega
 ·rw[BL h];exact Nat.zero_le _
theorem DK:dN.wf:=⟨by decide,by unfold Bts.wf;decide,by decide,by unfold I64;decide,by unfold I64;decide,⟨by decide,by simp[dN]⟩⟩
theorem jU{t:Tre}(h:au t=true):aJ t=aD t t.root:=by unfold aJ;rw[if_pos h]
theorem lM{t:Tre}(h:au t=false):aJ t=.zero:=by unfold aJ;rw[if_neg (by rw[h];simp)]
theorem lq{t:Tre}(h:au t=true):aJ t=cj (foT t):=by rw[jU h,qB (ao h)]
theorem qX(t:Tre):au (aJ t)=au t:=by
 cases h:au t with
 |false=>rw[lM h];rfl
 |true=>rw[lq h];exact tP.2 (DU (ao h)).1
theorem we{t:Tre}(h:t.wf):(aJ t).wf:=by
 cases hr:au t with
 |false=>rw[lM hr];exact⟨by simp[Tre.zero],by simp[Tre.zero],by simp[Tre.zero,I64]⟩
 |true=>
  have hR:=ao hr;rw[jU hr];exact(gH h hR hR.root.1 hR.root.2).1
def mP(t:Tre):Nod:=if au t=true then { t.nodes.getD t.root.toNat .zero with kids:=[] }else .zero
def Fo.trees:Fo→List Tre
 |.nil=>[]
 |.cons m j r=>cj (.cons m j .nil)::r.trees
def Fo.MF:Fo→List Tre
 |.nil=>[]
 |.cons _ k _=>k.trees
def aN(t:Tre):List Tre:=if au t=true then(foT t).MF else[]
theorem Fo.xJ:∀F:Fo,F.app .nil=F
 |.nil=>rfl
 |.cons m j r=>by rw[Fo.app,Fo.xJ r]
theorem Fo.pJ:∀F G H:Fo,(F.app G).app H=F.app (G.app H)
 |.nil,G,H=>rfl
 |.cons m j r,G,H=>by simp only[Fo.app,Fo.pJ r G H]
theorem Fo.tQ:∀F:Fo,F.len≤F.size
 |.nil=>Nat.le_refl _
 |.cons m j r=>by have:=Fo.tQ r;simp only[Fo.len,Fo.size];omega
theorem Fo.pY:∀(F G:Fo),(F.app G).trees=F.trees++G.trees
 |.nil,G=>rfl
 |.cons m j r,G=>by simp[Fo.app,Fo.trees,Fo.pY r G]
theorem Fo.jm:∀(F:Fo),F.trees.length=F.len
 |.nil=>rfl
 |.cons m j r=>by simp[Fo.trees,Fo.len,Fo.jm r]
def nL(l:List Tre):Bool:=l.all fun t=>au t
theorem gZ{l:List Tre}:nL l=true↔∀t∈l,au t=true:=by simp[nL]
theorem KT(n:Nod)(l:List Tre):(ofP n l).2=(fits n l.length&&nL l):=by
 by_cases h:fits n l.length=true∧∀t∈l,au t=true
 ·rw[xA h.1 h.2,h.1,gZ.2 h.2];rfl
 ·rw[BL h]
  cases h1:fits n l.length with
  |false=>rfl
  |true=>
   cases h2:nL l with
   |false=>rfl
   |true=>exact absurd ⟨h1,gZ.1 h2⟩ h
theorem Jb{t:Tre}(h:au t=true):∃F,foT t=.cons (mP t) F .nil:=by
 have hR:=ao h;have h0:=hR.root;obtain⟨N,hN⟩:∃N,t.nodes.length=N+1:=⟨t.nodes.length-1,by omega⟩
 refine⟨aA t.nodes N (ae t.nodes t.root),?_⟩;unfold foT;rw[hN,aK,ay,mP,if_pos h];rfl
theorem kX:∀{F:Fo},F.fit=true→F.bare→(∀t∈F.trees,au t=true)∧foL F.trees=F
 |.nil,_,_=>⟨by simp[Fo.trees],rfl⟩
 |.cons m j r,hf,hb=>by
  simp only[Fo.fit,Bool.and_eq_true]at hf;obtain⟨h1,h2⟩:=kX (F:=r) hf.2 hb.2.2;have hr:au (cj (.cons m j .nil))=true:=gP (by simp only[Fo.fit,hf.1.1,hf.1.2];rfl);refine⟨fun t ht=>?_,?_⟩
  ·rcases List.mem_cons.1 ht with rfl|ht
   ·exact hr
   ·exact h1 t ht
  ·rw[Fo.trees,foL,h2,oR ⟨hb.1,hb.2.1,trivial⟩];rfl
theorem Gu{t:Tre}(h:t.wf):∀x∈aN t,x.wf:=by
 intro x hx
 cases hr:au t with
 |false=>rw[aN,if_neg (by rw[hr];simp)]at hx;simp at hx
 |true=>
  obtain⟨n,k,e,hb,hf⟩:=fO (ao hr);have hsz:=fa (ao hr);have hd:(foT t).dwf:=kU h.nodes _ _;have hl:=h.len;rw[e]at hsz hd;simp only[Fo.size]at hsz;rw[aN,if_pos hr,e]at hx;have key:∀F:Fo,F.dwf→F.size≤bY→∀x∈F.trees,x.wf:=by
   intro F
   induction F with
   |nil=>intro _ _ x hx;simp[Fo.trees]at hx
   |cons m j r _ ih=>
    intro hd hs x hx;simp only[Fo.size]at hs;rcases List.mem_cons.1 hx with rfl|hx
    ·exact sq ⟨hd.1,hd.2.1,trivial⟩ (by simp only[Fo.size];omega)
    ·exact ih hd.2.2 (by omega) x hx
  exact key k hd.2.1 (by omega) x hx
theorem je(t:Tre):tot (aN t)≤t.nodes.length-1∧(aN t).length≤t.nodes.length:=by
 cases hr:au t with
 |false=>rw[aN,if_neg (by rw[hr];simp)];simp[tot]
 |true=>
  obtain⟨n,k,e,hb,hf⟩:=fO (ao hr);have hsz:=fa (ao hr);simp only[Fo.fit,Bool.and_eq_true]at hf;obtain⟨h1,h2⟩:=kX (F:=k) hf.1.2 hb.2.1;have h3:=jw h1;have h4:=Fo.xv k;rw[h2]at h3;rw[e]at hsz;simp only[Fo.size]at hsz;rw[aN,if_pos hr,e];show tot k.trees≤_∧k.trees.length≤_
  rw[←h3,Fo.jm];omega
end Go.aa
end
