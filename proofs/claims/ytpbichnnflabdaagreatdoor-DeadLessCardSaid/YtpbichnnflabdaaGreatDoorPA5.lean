/- The texts that the card needs, part 6. -/
import Derived.Test.YtpbichnnflabdaaGreatDoorPA4
set_option linter.all false
section
namespace Go.Km
open Go Go.RowKit Go.Vc
open Go.Sl hiding lk
theorem D.tV{c:Cf}:∀(x y:List D) (u:List Value),D.ah c (x++y) u→∃u1 u2,u=u1++u2∧D.ah c x u1∧D.ah c y u2
 | [],y,u,h=>⟨[],u,rfl,by unfold D.ah;rfl,h⟩
 | a :: x,y,u,h=>by
  rw[List.cons_append] at h;unfold D.ah at h;obtain⟨v,us,rfl,h1,h2⟩:=h;obtain⟨u1,u2,rfl,h3,h4⟩:=D.tV x y us h2;exact⟨v :: u1,u2,rfl,by unfold D.ah;exact⟨v,u1,rfl,h1,h3⟩,h4⟩
theorem cX{η η':Env}:∀(is:List Nat),(∀b∈is,η' b=η b)→aR η' is=aR η is
 | [],_=>rfl
 | b :: l,h=>by
  simp only[aR,h b (List.mem_cons_self ..),cX l fun b hb=>h b (List.mem_cons_of_mem _ hb)]
theorem cQ.fz{P:Program}{Γ:Nat→Option (List F)}{η:Env}{f:FuncId}{l1 l2:List D}{fl:List F}{is rd:List Nat}{d:D}{e:List (Nat×B)}(hm:cx (D.toF η 6) l2=some (fl,is))(h:cQ P Γ (Res.lk2 (aR η is) η) f (l1++fl.map F.toD) d rd e):cQ P Γ η f (l1++l2) d (rd++is) (e++aR η is):=by
 refine⟨fun η' hη' W c O w vs hΓ hp ho hvs=>?_⟩;have hi:∀b∈is,η' b=η b:=fun b hb=>hη' b (List.mem_append_right _ hb)
 have hm':cx (D.toF η' 6) l2=some (fl,is):=ff (fun d x is' h3 h4=>fh 6 d x is' h3 (fun b' hb'=>hi b' (h4 b' hb'))) hm;have hg:=cX is hi;obtain⟨u1,u2,rfl,hu1,hu2⟩:=D.tV l1 l2 vs hvs;have hfl:=fE (jT hp is 6) hm' (fun b h=>h) hu2;have hp1:=hp.fz_ is (dB (gm 6) hm');have ho1:=ho.fz_ hp is;have hle1:=ql hp is;have hη2:∀b∈rd,Res.lk2 (aR η' is) η' b=Res.lk2 (aR η is) η b:=by
  intro b hb;rw[hg]
  by_cases hbi:b∈is
  ·obtain⟨x,hx⟩:=dB (gm 6) hm b hbi;rw[(aV η η' is b).2 hbi x hx,(aV η η is b).2 hbi x hx]
  ·rw[(aV η η' is b).1 hbi,(aV η η is b).1 hbi];exact hη' b (List.mem_append_left _ hb)
 obtain⟨q1,q2⟩:=h.go (Res.lk2 (aR η' is) η') hη2 W (cfz c O is w) (Ofz O is) w (u1++u2) (fun g cs hg=>F.rep.ext hle1.ext _ _ (hΓ g cs hg)) hp1 ho1 (D.bn (D.ah.le hle1 _ _ hu1) (iL hfl));refine⟨q1,q2.mono fun e1 w' ⟨v,h3,h4⟩=>⟨v,h3,?_⟩⟩;refine Res.after (rd0:=rd++is) hp h4 fun d' rd' e' hk=>?_
 obtain⟨rfl,rfl,rfl⟩:=hk;rw[hg];exact⟨rfl,rfl,rfl⟩
theorem lJ {P:Program} {X:Tx} (hX:iA P X) {f:FuncId} {fi:Fi} (hf:X.fi f=some fi) {tc e sz:Nat} {rows rows':List (List F)} {l:List F} {r:F} (hN:Nat.ble (l.length+1) fi.N=true)
  (hrun:∀vs,Sn P X f (⟨r.toD,[(0,.va 0 tc [.own 1 0]),(1,.ro 0 e sz rows'),(2,.gh 0 vs (.ptr 0 0 0 :: l.map F.toD))]⟩:ss) ⟨⟨f,fi.N,j6 0 (.ptr 0 0 0 :: l.map F.toD),[.code fi.body],[],none⟩,[],[(2,.gh 0 vs (.ptr 0 0 0 :: l.map F.toD)),(0,.va 0 tc [.own 1 0]),(1,.ro 0 e sz rows)],3⟩)
  {η:Env} {b v b2 v2:Nat} (h1:η b=some (.va v tc [.own b2 v2])) (h2:η b2=some (.ro v2 e sz rows)) :
  cQ P X.Γ η f (.ptr b v 0 :: l.map F.toD) r.toD [b,b2] [(b,.va v tc [.own b2 (nv η b2)]),(b2,.ro (nv η b2) e sz rows')]:=by
 have hne:Nat.beq b b2=false:=by
  rw[←Bool.not_eq_true];intro h;have:=Nat.eq_of_beq_eq_true h;subst this;rw[h1] at h2
  cases h2
 have hne':Nat.beq b2 b=false:=by rw[←Bool.not_eq_true];intro h;rw[Nat.eq_of_beq_eq_true h,Nat.beq_refl] at hne;cases hne
 have hlk:∀{x y:B} {i:Nat} {z:B},lk [(b,x),(b2,y)] i=some z→(i=b∧z=x)∨(i=b2∧z=y):=by
  intro x y i z h;simp only[lk] at h
  cases e1:Nat.beq b i with
  | true=>rw[e1] at h;cases h;exact .inl ⟨(Nat.eq_of_beq_eq_true e1).symm,rfl⟩
  | false=>
   rw[e1] at h
   cases e2:Nat.beq b2 i with
   | true=>rw[e2] at h;cases h;exact .inr ⟨(Nat.eq_of_beq_eq_true e2).symm,rfl⟩
   | false=>rw[e2] at h;cases h
 have l1:∀{x y:B},lk [(b,x),(b2,y)] b=some x:=by intro x y;simp[lk]
 have l2:∀{x y:B},lk [(b,x),(b2,y)] b2=some y:=by intro x y;simp[lk,hne]
 have ho:∀{u u2:Nat},bH [(b,u),(b2,u2)]=true:=by intro u u2;simp[bH,hne']
 have hp:∀{u u2:Nat},cb [(b,u),(b2,u2)] b u 0=some 0:=by intro u u2;simp[cb]
 have hp2:∀{u u2:Nat},cb [(b,u),(b2,u2)] b2 u2 0=some 1:=by intro u u2;simp[cb,hne']
 refine jo hX hf (x:=[]) (x0:=[]) (l:=.ptr b v 0 :: l.map F.toD) (l0:=.ptr 0 0 0 :: l.map F.toD) (m0:=[(b,v),(b2,v2)]) (μ:=[(b,v),(b2,nv η b2)]) (hb:=[(b,.va v tc [.own b2 v2]),(b2,.ro v2 e sz rows)]) (h0:=[(0,.va 0 tc [.own 1 0]),(1,.ro 0 e sz rows)]) (d':=r.toD) (ds':=.ptr 0 0 0 :: l.map F.toD) (h'':=[(0,.va 0 tc [.own 1 0]),(1,.ro 0 e sz rows')]) ⟨ho,ho,?_,?_,?_,?_,?_,?_⟩ ?_ ?_ rfl (fun _ _ _ _ _ _=>⟨[],by simp[D.ah]⟩) ?_ (jd _ _) ?_ (fun vs=>by rw[List.append_nil];exact hrun vs)
 ·intro i x h;rcases hlk h with ⟨rfl,rfl⟩|⟨rfl,rfl⟩
  ·exact⟨h1,List.mem_cons_self ..⟩
  ·exact⟨h2,List.mem_cons_of_mem _ (List.mem_cons_self ..)⟩
 ·intro i u h;simp only[List.mem_cons,List.not_mem_nil,or_false,Prod.mk.injEq] at h;rcases h with ⟨rfl,rfl⟩|⟨rfl,rfl⟩
  ·exact⟨_,l1⟩
  ·exact⟨_,l2⟩
 ·intro i x h;rcases hlk h with ⟨rfl,rfl⟩|⟨rfl,rfl⟩
  ·exact List.mem_cons_self ..
  ·exact List.mem_cons_of_mem _ (List.mem_cons_self ..)
 ·intro i x h;rcases hlk h with ⟨rfl,rfl⟩|⟨rfl,rfl⟩
  ·exact⟨rfl,.inl ⟨0,rfl⟩⟩
  ·exact⟨rfl,.inl ⟨1,rfl⟩⟩
 ·intro i x y h hy;rcases hlk h with ⟨rfl,rfl⟩|⟨rfl,rfl⟩
  ·rw[h1] at hy
   cases hy;exact Nat.le_refl _
  ·rw[h2] at hy
   cases hy;show v2≤nv η i
   unfold nv;rw[h2];exact Nat.le_succ _
 ·intro i j u h
  match i,h with
  | 0,h=>cases h;exact .inr (.inl ⟨0,0,rfl,rfl⟩)
  | 1,h=>cases h;exact .inl rfl
 ·simp only[cC,l1,l2,B.ver,Nat.beq_refl,cond_true,en,aO,bc,hp2]
 ·simp only[aO,bc,hp,dL]
 ·rw[List.length_cons,List.length_map];exact hN
 ·simp only[cC,l1,l2,B.ver,Nat.beq_refl,cond_true,en,aO,bc,hp2]
theorem zp{η:Env}:∀{e:List (Nat×B)},(∀p∈e,η p.1=some p.2)→Res.lk2 e η=η
 | [],_=>rfl
 | (b,x) :: l,h=>by
  show up (Res.lk2 l η) b x=η
  rw[zp fun p hp=>h p (List.mem_cons_of_mem _ hp)]
  funext i
  by_cases e:b=i
  ·subst e;rw[a8];exact(h (b,x) (List.mem_cons_self ..)).symm
  ·rw[aF e]
theorem cQ.idle{P:Program}{Γ:Nat→Option (List F)}{η:Env}{f:FuncId}{l:List D}{d:D}{rd:List Nat}{e:List (Nat×B)}(h:cQ P Γ η f l d rd e)(he:∀p∈e,η p.1=some p.2∧p.1∈rd):cQ P Γ η f l d rd []:=⟨fun η' hη' W c O w vs hΓ hp ho hvs=>by
 obtain⟨q1,q2⟩:=h.go η' hη' W c O w vs hΓ hp ho hvs;refine⟨q1,q2.mono fun e1 w' ⟨v,h3,d',rd',e',c',O',⟨hd,hr,hee⟩,k2,k3,k4,k5⟩=>⟨v,h3,_,_,_,c',O',⟨rfl,rfl,rfl⟩,k2,by rw[←hd];exact k3,?_,k5⟩⟩;rw[hee,zp fun p hp=>(hη' _ (he p hp).2).trans (he p hp).1] at k4;exact k4⟩
theorem KF {P:Program} {X:Tx} (hX:iA P X) {f:FuncId} {fi:Fi} (hf:X.fi f=some fi) {tc e sz:Nat} {rows:List (List F)} {l:List F} {r:F} (hN:Nat.ble (l.length+1) fi.N=true)
  (hrun:∀vs,Sn P X f (⟨r.toD,[(0,.va 0 tc [.own 1 0]),(1,.ro 0 e sz rows),(2,.gh 0 vs (.ptr 0 0 0 :: l.map F.toD++[.own 1 0]))]⟩:ss) ⟨⟨f,fi.N,j6 0 (.ptr 0 0 0 :: l.map F.toD),[.code fi.body],[],none⟩,[],[(2,.gh 0 vs (.ptr 0 0 0 :: l.map F.toD++[.own 1 0])),(0,.va 0 tc [.own 1 0]),(1,.ro 0 e sz rows)],3⟩)
  {η:Env} {b v b2 v2:Nat} (h1:η b=some (.va v tc [.own b2 v2])) (h2:η b2=some (.ro v2 e sz rows)) :
  cQ P X.Γ η f (.ptr b v 0 :: l.map F.toD) r.toD [b,b2] []:=by
 have hne:Nat.beq b b2=false:=by
  rw[←Bool.not_eq_true];intro h;have:=Nat.eq_of_beq_eq_true h;subst this;rw[h1] at h2
  cases h2
 have hne':Nat.beq b2 b=false:=by rw[←Bool.not_eq_true];intro h;rw[Nat.eq_of_beq_eq_true h,Nat.beq_refl] at hne;cases hne
 have hlk:∀{x y:B} {i:Nat} {z:B},lk [(b,x),(b2,y)] i=some z→(i=b∧z=x)∨(i=b2∧z=y):=by
  intro x y i z h;simp only[lk] at h
  cases e1:Nat.beq b i with
  | true=>rw[e1] at h;cases h;exact .inl ⟨(Nat.eq_of_beq_eq_true e1).symm,rfl⟩
  | false=>
   rw[e1] at h
   cases e2:Nat.beq b2 i with
   | true=>rw[e2] at h;cases h;exact .inr ⟨(Nat.eq_of_beq_eq_true e2).symm,rfl⟩
   | false=>rw[e2] at h;cases h
 have l1:∀{x y:B},lk [(b,x),(b2,y)] b=some x:=by intro x y;simp[lk]
 have l2:∀{x y:B},lk [(b,x),(b2,y)] b2=some y:=by intro x y;simp[lk,hne]
 have ho:bH [(b,v),(b2,v2)]=true:=by simp[bH,hne']
 have hp:cb [(b,v),(b2,v2)] b v 0=some 0:=by simp[cb]
 have hp2:cb [(b,v),(b2,v2)] b2 v2 0=some 1:=by simp[cb,hne']
 have key:cQ P X.Γ η f (.ptr b v 0 :: l.map F.toD) r.toD [b,b2] [(b,.va v tc [.own b2 v2]),(b2,.ro v2 e sz rows)]:=by
  refine jo hX hf (x:=[.own b2 v2]) (x0:=[.own 1 0]) (l:=.ptr b v 0 :: l.map F.toD) (l0:=.ptr 0 0 0 :: l.map F.toD) (m0:=[(b,v),(b2,v2)]) (μ:=[(b,v),(b2,v2)]) (hb:=[(b,.va v tc [.own b2 v2]),(b2,.ro v2 e sz rows)]) (h0:=[(0,.va 0 tc [.own 1 0]),(1,.ro 0 e sz rows)]) (d':=r.toD) (ds':=D.ptr 0 0 0 :: l.map F.toD++[D.own 1 0]) (h'':=[(0,.va 0 tc [.own 1 0]),(1,.ro 0 e sz rows)]) ⟨ho,ho,?_,?_,?_,?_,?_,?_⟩ ?_ ?_ ?_ ?_ ?_ (jd _ _) ?_ hrun
  ·intro i x h;rcases hlk h with ⟨rfl,rfl⟩|⟨rfl,rfl⟩
   ·exact⟨h1,List.mem_cons_self ..⟩
   ·exact⟨h2,List.mem_cons_of_mem _ (List.mem_cons_self ..)⟩
  ·intro i u h;simp only[List.mem_cons,List.not_mem_nil,or_false,Prod.mk.injEq] at h;rcases h with ⟨rfl,rfl⟩|⟨rfl,rfl⟩
   ·exact⟨_,l1⟩
   ·exact⟨_,l2⟩
  ·intro i x h;rcases hlk h with ⟨rfl,rfl⟩|⟨rfl,rfl⟩
   ·exact List.mem_cons_self ..
   ·exact List.mem_cons_of_mem _ (List.mem_cons_self ..)
  ·intro i x h;rcases hlk h with ⟨rfl,rfl⟩|⟨rfl,rfl⟩
   ·exact⟨rfl,.inl ⟨0,rfl⟩⟩
   ·exact⟨rfl,.inl ⟨1,rfl⟩⟩
  ·intro i x y h hy;rcases hlk h with ⟨rfl,rfl⟩|⟨rfl,rfl⟩
   ·rw[h1] at hy
    cases hy;exact Nat.le_refl _
   ·rw[h2] at hy
    cases hy;exact Nat.le_refl _
  ·intro i j u h
   match i,h with
   | 0,h=>cases h;exact .inr (.inl ⟨0,0,rfl,rfl⟩)
   | 1,h=>cases h;exact .inr (.inr ⟨l.length+1,by simp,by simp⟩)
  ·simp only[cC,l1,l2,B.ver,Nat.beq_refl,cond_true,en,aO,bc,hp2]
  ·simp only[aO,bc,hp,dL]
  ·simp only[aO,bc,hp2]
  ·intro η' c O w hη hpw;obtain⟨A,k,vr,k1,_⟩:=hpw.pc b2 _ ((hη b2 (by simp)).trans h2);exact⟨[.slice A rows.length k],by unfold D.ah;exact⟨_,_,rfl,by unfold D.rep;exact⟨A,_,k,k1,rfl⟩,by unfold D.ah;rfl⟩⟩
  ·rw[List.length_cons,List.length_map];exact hN
  ·simp only[cC,l1,l2,B.ver,Nat.beq_refl,cond_true,en,aO,bc,hp2]
 refine key.idle fun p hp=>?_;simp only[List.mem_cons,List.not_mem_nil,or_false] at hp;rcases hp with rfl|rfl
 ·exact⟨h1,by simp⟩
 ·exact⟨h2,by simp⟩
structure Na(P:Program)(Γ:Nat→Option (List F))(f:FuncId)(tc e sz:Nat)(rows:List (List F))(l:List F)(r:F)(rows':List (List F)):Prop where
 own:∀(η:Env) (b v b2 v2:Nat),η b=some (.va v tc [.own b2 v2])→η b2=some (.ro v2 e sz rows)→cQ P Γ η f (.ptr b v 0 :: l.map F.toD) r.toD [b,b2] [(b,.va v tc [.own b2 (nv η b2)]),(b2,.ro (nv η b2) e sz rows')]
structure NG(P:Program)(Γ:Nat→Option (List F))(f:FuncId)(tc e sz:Nat)(l:List F)(r:F)(rows':List (List F)):Prop where
 nil:∀(η:Env) (b v t:Nat),η b=some (.va v tc [.fr (.vl (.slice none 0 0))])→η t=none→cQ P Γ η f (.ptr b v 0 :: l.map F.toD) r.toD [b,t] [(b,.va v tc [.own t (nv η t)]),(t,.ro (nv η t) e sz rows')]
structure Nw(P:Program)(Γ:Nat→Option (List F))(f:FuncId)(tc e sz:Nat)(rows:List (List F))(l:List F)(r:F):Prop where
 own:∀(η:Env) (b v b2 v2:Nat),η b=some (.va v tc [.own b2 v2])→η b2=some (.ro v2 e sz rows)→cQ P Γ η f (.ptr b v 0 :: l.map F.toD) r.toD [b,b2] []
class HR(P:Program)(Γ:Nat→Option (List F))(f:Nat)(tc e sz:Nat)(rows:List (List F))(l:List F)(r:outParam F)(pre:outParam Prop):Prop where
 h:pre→Nw P Γ f tc e sz rows l r
structure MZ(P:Program)(Γ:Nat→Option (List F))(f tc e sz:Nat)(rows:List (List F))(l:List F)(k:F→Prop):Prop where
 h:∃r,Nw P Γ f tc e sz rows l r∧k r
instance{P:Program}{Γ:Nat→Option (List F)}{f tc e sz:Nat}{rows:List (List F)}{l:List F}{r:F}{pre:Prop}{k:F→Prop}[hc:HR P Γ f tc e sz rows l r pre]:Arm (MZ P Γ f tc e sz rows l k) (SdA pre (k r)):=⟨fun ⟨h,hk⟩=>⟨r,hc.h h,hk⟩⟩
class Nn(f:Nat):Prop where
 h:True
def K8(P:Program)(Γ:Nat→Option (List F))(t:Nat)(η:Env)(f:Nat)(l:List D)(k:Kr Prop):Prop:=match l with
 | .ptr b v 0 :: ds=>(match η b,cx (D.toF η 6) ds with
  | some (.va v' tc [.own b2 v2]),some (fl,[])=>(match η b2 with
   | some (.ro v2' e sz rows)=>bif Nat.beq v v'&&Nat.beq v2 v2' then F.fos fl fun fl=>MZ P Γ f tc e sz rows fl fun r=>k r.toD [b,b2] [] else False
   | _=>False)
  | _,_=>False)
 | _=>False
theorem Jf{P:Program}{Γ:Nat→Option (List F)}{t:Nat}{η:Env}{f:Nat}{l:List D}{k:Kr Prop}(h:K8 P Γ t η f l k):de P Γ t η f l k:=by
 unfold K8 at h
 split at h
 ·rename_i b v ds
  split at h
  ·rename_i v' tc b2 v2 fl hb hm
   split at h
   ·rename_i v2' e sz rows hb2
    cases hc:(Nat.beq v v'&&Nat.beq v2 v2') with
    | false=>rw[hc] at h;exact h.elim
    | true=>
     rw[hc,cond_true,F.cv] at h;simp only[Bool.and_eq_true] at hc;obtain⟨c1,c2⟩:=hc
     cases Nat.eq_of_beq_eq_true c1
     cases Nat.eq_of_beq_eq_true c2;obtain⟨r,hp,hk⟩:=h.h;have q:=cQ.fz (l1:=[.ptr b v 0]) hm (hp.own _ b v b2 v2 (by exact hb) (by exact hb2));exact⟨_,_,_,q,hk⟩
   ·exact h.elim
  ·exact h.elim
 ·exact h.elim
instance{P:Program}{Γ:Nat→Option (List F)}{t:Nat}{η:Env}{f:Nat}{l:List D}{k:Kr Prop}[Nn f]:Arm (de P Γ t η f l k) (K8 P Γ t η f l k):=⟨Jf⟩
class HA(P:Program)(Γ:Nat→Option (List F))(f:Nat)(tc e sz:Nat)(rows:List (List F))(l:List F)(r:outParam F)(rows':outParam (List (List F)))(pre:outParam Prop):Prop where
 h:pre→Na P Γ f tc e sz rows l r rows'
structure Md(P:Program)(Γ:Nat→Option (List F))(f tc e sz:Nat)(rows:List (List F))(l:List F)(k:F→List (List F)→Prop):Prop where
 h:∃r rows',Na P Γ f tc e sz rows l r rows'∧k r rows'
structure NF(P:Program)(Γ:Nat→Option (List F))(f tc:Nat)(l:List F)(k:Nat→Nat→F→List (List F)→Prop):Prop where
 h:∃e sz r rows',NG P Γ f tc e sz l r rows'∧k e sz r rows'
instance{P:Program}{Γ:Nat→Option (List F)}{f tc e sz:Nat}{rows rows':List (List F)}{l:List F}{r:F}{pre:Prop}{k:F→List (List F)→Prop}[hc:HA P Γ f tc e sz rows l r rows' pre]:Arm (Md P Γ f tc e sz rows l k) (SdA pre (k r rows')):=⟨fun ⟨h,hk⟩=>⟨r,rows',hc.h h,hk⟩⟩
class AJ(f:Nat):Prop where
 h:True
def Ki(P:Program)(Γ:Nat→Option (List F))(t:Nat)(η:Env)(f:Nat)(l:List D)(k:Kr Prop):Prop:=match l with
 | .ptr b v 0 :: ds=>(match η b,cx (D.toF η 6) ds with
  | some (.va v' tc [.own b2 v2]),some (fl,is)=>(match η b2 with
   | some (.ro v2' e sz rows)=>bif Nat.beq v v'&&Nat.beq v2 v2' && !is.elem b && !is.elem b2 then F.fos fl fun fl=>Md P Γ f tc e sz rows fl fun r rows'=>k r.toD (b :: b2 :: is) ((b,.va v tc [.own b2 (nv η b2)]) :: (b2,.ro (nv η b2) e sz rows') :: aR η is) else False
   | _=>False)
  | some (.va v' tc [.fr (.vl (.slice none 0 0))]),some (fl,is)=>(match η t with
   | none=>bif Nat.beq v v' && !is.elem b && !is.elem t then F.fos fl fun fl=>NF P Γ f tc fl fun e sz r rows'=>k r.toD (b :: t :: is) ((b,.va v tc [.own t (nv η t)]) :: (t,.ro (nv η t) e sz rows') :: aR η is) else False
   | some _=>False)
  | _,_=>False)
 | _=>False
theorem Io{P:Program}{Γ:Nat→Option (List F)}{t:Nat}{η:Env}{f:Nat}{l:List D}{k:Kr Prop}(h:Ki P Γ t η f l k):de P Γ t η f l k:=by
 unfold Ki at h
 split at h
 ·rename_i b v ds
  split at h
  ·rename_i v' tc b2 v2 fl is hb hm
   split at h
   ·rename_i v2' e sz rows hb2
    cases hc:(Nat.beq v v'&&Nat.beq v2 v2' && !is.elem b && !is.elem b2) with
    | false=>rw[hc] at h;exact h.elim
    | true=>
     rw[hc,cond_true,F.cv] at h;simp only[Bool.and_eq_true,Bool.not_eq_true',List.elem_eq_contains,List.contains_eq_mem,decide_eq_false_iff_not] at hc;obtain⟨⟨⟨c1,c2⟩,c3⟩,c4⟩:=hc
     cases Nat.eq_of_beq_eq_true c1
     cases Nat.eq_of_beq_eq_true c2;obtain⟨r,rows',hp,hk⟩:=h.h;have q1:=((aV η η is b).1 c3).trans hb;have q2:=((aV η η is b2).1 c4).trans hb2;have:=cQ.fz (l1:=[.ptr b v 0]) hm (hp.own _ b v b2 v2 q1 q2);rw[kU is c4] at this;exact⟨_,_,_,this,hk⟩
   ·exact h.elim
  ·rename_i v' tc fl is hb hm
   split at h
   ·rename_i ht
    cases hc:(Nat.beq v v' && !is.elem b && !is.elem t) with
    | false=>rw[hc] at h;exact h.elim
    | true=>
     rw[hc,cond_true,F.cv] at h;simp only[Bool.and_eq_true,Bool.not_eq_true',List.elem_eq_contains,List.contains_eq_mem,decide_eq_false_iff_not] at hc;obtain⟨⟨c1,c3⟩,c4⟩:=hc
     cases Nat.eq_of_beq_eq_true c1;obtain⟨e,sz,r,rows',hp,hk⟩:=h.h;have q1:=((aV η η is b).1 c3).trans hb;have q2:=((aV η η is t).1 c4).trans ht;have:=cQ.fz (l1:=[.ptr b v 0]) hm (hp.nil _ b v t q1 q2);rw[kU is c4] at this;exact⟨_,_,_,this,hk⟩
   ·exact h.elim
  ·exact h.elim
 ·exact h.elim
instance{P:Program}{Γ:Nat→Option (List F)}{t:Nat}{η:Env}{f:Nat}{l:List D}{k:Kr Prop}[AJ f]:Arm (de P Γ t η f l k) (Ki P Γ t η f l k):=⟨Io⟩
theorem F7{e sz:Nat}{S:Nat→Prop}{w:World}:(Sl.own e sz none 0 0 []).on S w:=⟨World.ownsRow_nil w 0 e sz,rfl,by simp,fun g hg=>by simp[Value.ownBlock] at hg⟩
abbrev uq:D:=.fr (.vl (.slice none 0 0))
theorem Hp.none_{c:Cf}{O:Nat→Nat→Prop}{η:Env}{w:World}{b e sz:Nat}(h:Hp c O η w)(hb:η b=none):c.le (c.add b 0 (none,0,0))∧Hp (c.add b 0 (none,0,0)) (upO O b fun _=>False) (up η b (.ro 0 e sz [])) w:=by
 have hv:nv η b=0:=by unfold nv;rw[hb]
 have hf:=h.fresh b;rw[hv] at hf;refine⟨Cf.eu hf,h.upd Chg.refl (fun g hg=>hg.elim) (Cf.eu hf) rfl rfl ?_ ⟨none,0,[],Cf.cL,by simp[F.aG],by simp,F7⟩⟩;have:=h.cj (b:=b) (y:=(none,0,0)) (x':=.ro 0 e sz []) hv.symm;rw[hv] at this;exact this
theorem Old.none_{W:Bs}{c:Cf}{O:Nat→Nat→Prop}{w:World}{b:Nat}{y:Option Addr×Nat×Nat}(h:Old W c O w):Old W (c.add b 0 y) (upO O b fun _=>False) w:=h.upd Chg.refl (fun g hg=>hg.elim) rfl rfl
section
variable {ρ:Type} [ig ρ] {P:Program} {X:Tx} {f0:Nat} {r:ρ} {f N:Nat} {s:List (Nat×D)} {ki:List KI} {ds:List (Nat×Nat)} {ro:Option (Nat×Nat)} {cs:List Fm} {h:List (Nat×B)} {nx:Nat}
theorem HM{s:List (Nat×D)}{k:Nat}{d:D}{j:Nat}{x:D}(hx:lk ((k,d) :: s) j=some x):(k=j∧x=d)∨lk s j=some x:=by
 simp only[lk] at hx
 cases e:Nat.beq k j with
 | true=>rw[e] at hx;cases hx;exact .inl ⟨Nat.eq_of_beq_eq_true e,rfl⟩
 | false=>rw[e] at hx;exact .inr hx
theorem Sn.mq(k e sz:Nat)(hs:lk s k=some uq)(hf:lk h nx=none)(H:Sn P X f0 r ⟨⟨f,N,(k,.own nx 0) :: s,ki,ds,ro⟩,cs,(nx,.ro 0 e sz []) :: h,nx+1⟩):Sn P X f0 r ⟨⟨f,N,s,ki,ds,ro⟩,cs,h,nx⟩:=by
 unfold Sn Snd at *;intro W cs0 hΓ c O fr frs w hr;obtain⟨hle,hp⟩:=Hp.none_ (e:=e) (sz:=sz) hr.hp hf;obtain⟨a,todo,rr,h1,h2,h3,h4,h5⟩:=hr.top.ex;refine H W cs0 hΓ (c.add nx 0 (none,0,0)) (upO O nx fun _=>False) fr frs w ⟨⟨⟨a,todo,rr,h1,⟨h2.size,fun j d hj=>?_⟩,KIs.le hle h3,bB.le hle h4,ju.le hle h5⟩⟩,Fms.le hle hr.cs,?_,Old.none_ hr.old,by cases cs<;>exact hr.bot⟩
 ·rcases HM hj with ⟨rfl,rfl⟩|hj
  ·have:=h2.get _ _ hs;unfold D.rep F.rep at this;unfold D.rep;exact⟨none,0,0,Cf.cL,this⟩
  ·exact D.rep.le hle _ _ (h2.get _ _ hj)
 ·show Hp _ _ (lk ((nx,_) :: h)) w
  rw[bQ];exact hp
theorem Sn.Bi(b t e sz:Nat){v:Nat}(hs:lk h b=some (.va v t [uq]))(hf:lk h nx=none)(H:Sn P X f0 r ⟨⟨f,N,s,ki,ds,ro⟩,cs,(b,.va v t [.own nx 0]) :: (nx,.ro 0 e sz []) :: h,nx+1⟩):Sn P X f0 r ⟨⟨f,N,s,ki,ds,ro⟩,cs,h,nx⟩:=by
 unfold Sn Snd at *;intro W cs0 hΓ c O fr frs w hr;obtain⟨hle,hp⟩:=Hp.none_ (e:=e) (sz:=sz) hr.hp hf;obtain⟨a,todo,rr,h1,h2,h3,h4,h5⟩:=hr.top.ex;have hb:b≠nx:=fun e=>by rw[e,hf] at hs;cases hs
 have hbx:up (lk h) nx (.ro 0 e sz []) b=some (.va v t [uq]):=by rw[aF (Ne.symm hb)];exact hs
 refine H W cs0 hΓ (c.add nx 0 (none,0,0)) (upO (upO O nx fun _=>False) b (upO O nx (fun _=>False) b)) fr frs w ⟨⟨⟨a,todo,rr,h1,h2.le hle,KIs.le hle h3,bB.le hle h4,ju.le hle h5⟩⟩,Fms.le hle hr.cs,?_,?_,hr.bot⟩
 ·show Hp _ _ (lk ((b,_) :: (nx,_) :: h)) w
  rw[bQ,bQ];refine hp.upd Chg.refl (fun g hg=>.inl hg) (Cf.le.refl _) rfl rfl (hp.cq hbx rfl) ?_;obtain⟨g,vs,k1,k2,k3,k4⟩:=hp.pc b _ hbx;refine⟨g,vs,k1,?_,k3,k4⟩;unfold D.ah at k2 ⊢;obtain⟨u,us,k5,k6,k7⟩:=k2;refine⟨u,us,k5,?_,?_⟩
  ·unfold D.rep F.rep at k6;unfold D.rep;exact⟨none,0,0,Cf.cL,k6⟩
  ·unfold D.ah at k7 ⊢;exact k7
 ·exact(Old.none_ hr.old).upd Chg.refl (fun g hg=>.inl hg) rfl rfl
theorem sP{e sz n c m:Nat}{A:Option Addr}{rows:List (List Value)}{S:Nat→Prop}{w:World}(hm:m≤n)(h:(own e sz A n c rows).on S w):(own e sz A m c (rows.take m)).on S w:=by
 obtain⟨⟨hl,hc⟩,h2,h3,h4⟩:=h;have hrs:∀r∈rows.take m,r.length=sz:=fun r hr=>h3 r (List.mem_of_mem_take hr)
 have hrl:(rows.take m).length=m:=by simp;omega
 refine⟨⟨?_,?_⟩,hrl,hrs,?_⟩
 ·rw[length_flatten hrs,hrl]
 ·rcases hc with ⟨hv,h0⟩|⟨g,cap,cur,hv,hg,hw,hr1,hr2,hr3,hr4⟩
  ·injection hv with hA hn hcc
   subst hA;subst hcc;have:m=0:=by omega
   subst this;exact .inl ⟨rfl,rfl⟩
  ·injection hv with hA hn hcc
   subst hA;subst hcc;refine .inr ⟨g,c,cur,rfl,hg,hw,by omega,hr2,hr3,?_⟩;have hle:m * sz≤n * sz:=Nat.mul_le_mul_right sz hm;rw[←pH rows m h3,←hr4,List.take_take,Nat.min_eq_left hle]
 ·intro g hg;refine h4 g ?_
  cases A with
  | none=>simp[Value.ownBlock] at hg
  | some a=>simpa [Value.ownBlock] using hg
theorem Hp.Mh{c:Cf}{O:Nat→Nat→Prop}{η:Env}{w:World}{b u e sz hi:Nat}{rows:List (List F)}(h:Hp c O η w)(hb:η b=some (.ro u e sz rows))(hh:hi≤rows.length) :
  ∃A k,c.ι b u=some (A,rows.length,k)∧c.le (c.add b (u+1) (A,hi,k))∧Hp (c.add b (u+1) (A,hi,k)) (upO O b (O b)) (up η b (.ro (u+1) e sz (rows.take hi))) w∧∀W,Old W c O w→Old W (c.add b (u+1) (A,hi,k)) (upO O b (O b)) w:=by
 have hv:nv η b=u+1:=by unfold nv;rw[hb];rfl
 have hf:=h.fresh b;rw[hv] at hf;obtain⟨A,k,vr,k1,k2,k3,k4⟩:=h.pc b _ hb;refine⟨A,k,k1,Cf.eu hf,h.upd Chg.refl (fun g hg=>.inl hg) (Cf.eu hf) rfl rfl ?_ ⟨A,k,vr.take hi,?_,F.cD _ k2,fun r hr=>k3 r (List.mem_of_mem_take hr),?_⟩,fun W hO=>hO.upd Chg.refl (fun g hg=>.inl hg) rfl rfl⟩
 ·have:=h.cj (b:=b) (y:=(A,hi,k)) (x':=.ro (u+1) e sz (rows.take hi)) hv.symm;rw[hv] at this;exact this
 ·rw[Cf.cL,List.length_take,Nat.min_eq_left hh]
 ·rw[List.length_take,Nat.min_eq_left hh];exact sP hh k4
theorem rE{c:Cf}{b u sz hi k:Nat}{A:Option Addr}{m:Nat}{x:Value}(h1:c.ι b u=some (A,m,k))(hx:D.rep c (.sub b u sz 0 hi false) x):hi≤m∧x=.slice A hi k:=by
 unfold D.rep at hx;obtain⟨A',m',k',q1,q2,q3,q4,A2,q5,q6⟩:=hx;rw[h1] at q1
 cases q1;refine⟨q3,?_⟩;rw[q5,q6 (.inl rfl)];simp only[cond_false,Nat.sub_zero,Nat.zero_mul]
 congr 1
 cases A<;>simp[Addr.add]
theorem Sn.Je(b t e sz:Nat){v u b2 hi:Nat}{rows:List (List F)}(hs:lk h b=some (.va v t [.sub b2 u sz 0 hi false]))(hf:lk h b2=some (.ro u e sz rows))(H:Sn P X f0 r ⟨⟨f,N,s,ki,ds,ro⟩,cs,(b,.va v t [.own b2 (u+1)]) :: (b2,.ro (u+1) e sz (rows.take hi)) :: h,nx⟩):Sn P X f0 r ⟨⟨f,N,s,ki,ds,ro⟩,cs,h,nx⟩:=by
 unfold Sn Snd at *;intro W cs0 hΓ c O fr frs w hr;have hb:b≠b2:=fun e=>by rw[e,hf] at hs;cases hs
 obtain⟨A0,k0,vr0,k01,_⟩:=hr.hp.pc b2 _ hf;obtain⟨g0,vs0,k10,k20,k30,k40⟩:=hr.hp.pc b _ hs;have hhi:hi≤rows.length:=by
  unfold D.ah at k20;obtain⟨x,us,k5,k6,k7⟩:=k20;exact(rE k01 k6).1
 obtain⟨A,k,hι,hle,hp,hO⟩:=Hp.Mh (e:=e) (sz:=sz) hr.hp hf hhi;obtain⟨a,todo,rr,h1,h2,h3,h4,h5⟩:=hr.top.ex;have hbx:up (lk h) b2 (.ro (u+1) e sz (rows.take hi)) b=some (.va v t [.sub b2 u sz 0 hi false]):=by rw[aF (Ne.symm hb)];exact hs
 refine H W cs0 hΓ (c.add b2 (u+1) (A,hi,k)) (upO (upO O b2 (O b2)) b (upO O b2 (O b2) b)) fr frs w ⟨⟨⟨a,todo,rr,h1,h2.le hle,KIs.le hle h3,bB.le hle h4,ju.le hle h5⟩⟩,Fms.le hle hr.cs,?_,?_,by cases cs<;>exact hr.bot⟩
 ·show Hp _ _ (lk ((b,_) :: (b2,_) :: h)) w
  rw[bQ,bQ];refine hp.upd Chg.refl (fun g hg=>.inl hg) (Cf.le.refl _) rfl rfl (hp.cq hbx rfl) ?_;obtain⟨g,vs,k1,k2,k3,k4⟩:=hp.pc b _ hbx;refine⟨g,vs,k1,?_,k3,k4⟩;unfold D.ah at k2 ⊢;obtain⟨x,us,k5,k6,k7⟩:=k2;refine⟨x,us,k5,?_,?_⟩
  ·have:=(rE (hle.ι _ _ _ hι) k6).2;unfold D.rep;exact⟨A,hi,k,Cf.cL,this⟩
  ·unfold D.ah at k7 ⊢;exact k7
 ·exact(hO W hr.old).upd Chg.refl (fun g hg=>.inl hg) rfl rfl
theorem Sn.kJ(j e sz:Nat){u b2 hi:Nat}{rows:List (List F)}(hs:lk s j=some (.sub b2 u sz 0 hi false))(hf:lk h b2=some (.ro u e sz rows))(H:Sn P X f0 r ⟨⟨f,N,(j,.own b2 (u+1)) :: s,ki,ds,ro⟩,cs,(b2,.ro (u+1) e sz (rows.take hi)) :: h,nx⟩):Sn P X f0 r ⟨⟨f,N,s,ki,ds,ro⟩,cs,h,nx⟩:=by
 unfold Sn Snd at *;intro W cs0 hΓ c O fr frs w hr;obtain⟨A0,k0,vr0,k01,_⟩:=hr.hp.pc b2 _ hf;obtain⟨a,todo,rr,h1,h2,h3,h4,h5⟩:=hr.top.ex;obtain⟨A,k,hι,hle,hp,hO⟩:=Hp.Mh (e:=e) (sz:=sz) hr.hp hf (rE k01 (h2.get _ _ hs)).1;refine H W cs0 hΓ (c.add b2 (u+1) (A,hi,k)) (upO O b2 (O b2)) fr frs w ⟨⟨⟨a,todo,rr,h1,⟨h2.size,fun i d hj=>?_⟩,KIs.le hle h3,bB.le hle h4,ju.le hle h5⟩⟩,Fms.le hle hr.cs,?_,hO W hr.old,by cases cs<;>exact hr.bot⟩
 ·rcases HM hj with ⟨rfl,rfl⟩|hj
  ·have:=(rE hι (h2.get _ _ hs)).2;unfold D.rep;exact⟨A,hi,k,Cf.cL,this⟩
  ·exact D.rep.le hle _ _ (h2.get _ _ hj)
 ·show Hp _ _ (lk ((b2,_) :: h)) w
  rw[bQ];exact hp
theorem Stp.Je(b t e sz:Nat){v u b2 hi:Nat}{rows rows':List (List F)}(hs:lk h b=some (.va v t [.sub b2 u sz 0 hi false]))(hf:lk h b2=some (.ro u e sz rows))(he:rows.take hi=rows')(H:Stp (Sn P X f0 r ⟨⟨f,N,s,ki,ds,ro⟩,cs,(b,.va v t [.own b2 (u+1)]) :: (b2,.ro (u+1) e sz rows') :: h,nx⟩)):Stp (Sn P X f0 r ⟨⟨f,N,s,ki,ds,ro⟩,cs,h,nx⟩):=⟨Sn.Je b t e sz hs hf (by rw[he];exact H.h)⟩
theorem Stp.kJ(j e sz:Nat){u b2 hi:Nat}{rows rows':List (List F)}(hs:lk s j=some (.sub b2 u sz 0 hi false))(hf:lk h b2=some (.ro u e sz rows))(he:rows.take hi=rows')(H:Stp (Sn P X f0 r ⟨⟨f,N,(j,.own b2 (u+1)) :: s,ki,ds,ro⟩,cs,(b2,.ro (u+1) e sz rows') :: h,nx⟩)):Stp (Sn P X f0 r ⟨⟨f,N,s,ki,ds,ro⟩,cs,h,nx⟩):=⟨Sn.kJ j e sz hs hf (by rw[he];exact H.h)⟩
theorem Sn.FM(hf:lk h nx=none)(H:Sn P X f0 r ⟨⟨f,N,s,ki,(nx,0) :: ds,ro⟩,cs,(nx,.df 0) :: h,nx+1⟩):Sn P X f0 r ⟨⟨f,N,s,ki,ds,ro⟩,cs,h,nx⟩:=by
 unfold Sn Snd at *;intro W cs0 hΓ c O fr frs w hr;have hv:nv (lk h) nx=0:=by unfold nv;rw[hf]
 have hfr:=hr.hp.fresh nx;rw[hv] at hfr;have hle:c.le (c.add nx 0 (none,0,1)):=Cf.eu hfr;obtain⟨a,todo,rr,h1,h2,h3,h4,h5⟩:=hr.top.ex;refine H W cs0 hΓ (c.add nx 0 (none,0,1)) (upO O nx fun _=>False) fr frs w ⟨⟨⟨a,todo,rr,h1,h2.le hle,KIs.le hle h3,⟨[],_,rfl,.inr Cf.cL,bB.le hle h4⟩,ju.le hle h5⟩⟩,Fms.le hle hr.cs,?_,hr.old.upd Chg.refl (fun g hg=>hg.elim) rfl rfl,by cases cs<;>exact hr.bot⟩;show Hp _ _ (lk ((nx,_) :: h)) w
 rw[bQ];refine hr.hp.upd Chg.refl (fun g hg=>hg.elim) hle rfl rfl ?_ ⟨[],.inr Cf.cL,by simp,by simp⟩;have:=hr.hp.cj (b:=nx) (y:=(none,0,1)) (x':=.df 0) hv.symm;rw[hv] at this;exact this
theorem Sn.E8{b1 v1 b2 v2:Nat}(hb:Nat.beq b1 b2=false)(hf1:lk h b1=some (.df v1))(hf2:lk h b2=some (.df v2))(H:Sn P X f0 r ⟨⟨f,N,s,ki,(b1,v1+1) :: ds,ro⟩,cs,(b2,.gone v2) :: (b1,.df (v1+1)) :: h,nx⟩):Sn P X f0 r ⟨⟨f,N,s,ki,(b1,v1) :: (b2,v2) :: ds,ro⟩,cs,h,nx⟩:=by
 unfold Sn Snd at *;intro W cs0 hΓ c O fr frs w hr;have hne:b1≠b2:=fun e=>by rw[e,Nat.beq_refl] at hb;cases hb
 have hv:nv (lk h) b1=v1+1:=by unfold nv;rw[hf1];rfl
 have hfr:=hr.hp.fresh b1;rw[hv] at hfr;obtain⟨a,todo,rr,h1,h2,h3,⟨gs1,l1,e1,m1,gs2,l2,e2,m2,h4⟩,h5⟩:=hr.top.ex;obtain⟨gs1',n1,n2,n3⟩:=hr.hp.pc b1 _ hf1;obtain⟨gs2',n4,n5,n6⟩:=hr.hp.pc b2 _ hf2;have:=m1.eq n1;subst this;have:=m2.eq n4;subst this;have hle:c.le (c.add b1 (v1+1) (none,enc (gs1++gs2),1)):=Cf.eu hfr;have hne':=Ne.symm hne;have hO:∀i,i≠b1→i≠b2→(fun g=>(i=b1∧(O b1 g∨O b2 g))∨(i≠b1∧i≠b2∧O i g))=O i:=fun i h1 h2=>funext fun g=>propext ⟨fun h=>h.elim (fun h=>absurd h.1 h1) (fun h=>h.2.2),fun h=>.inr ⟨h1,h2,h⟩⟩
 refine H W cs0 hΓ (c.add b1 (v1+1) (none,enc (gs1++gs2),1)) (fun i g=>(i=b1∧(O b1 g∨O b2 g))∨(i≠b1∧i≠b2∧O i g)) fr frs w ⟨⟨⟨a,todo,rr,h1,h2.le hle,KIs.le hle h3,⟨gs1++gs2,l2,by rw[e1,e2,List.map_append,List.append_assoc],.inr Cf.cL,bB.le hle h4⟩,ju.le hle h5⟩⟩,Fms.le hle hr.cs,?_,?_,by cases cs<;>exact hr.bot⟩
 ·show Hp _ _ (lk ((b2,_) :: (b1,_) :: h)) w
  rw[bQ,bQ];refine⟨fun i x hx=>?_,fun i v y hy=>?_,fun i j g hi hj=>?_,fun g hg=>?_,fun i g hi=>?_⟩
  ·by_cases k2:b2=i
   ·subst k2;rw[a8] at hx
    cases hx
    trivial
   ·rw[aF k2] at hx
    by_cases k1:b1=i
    ·subst k1;rw[a8] at hx
     cases hx;refine⟨gs1++gs2,.inr Cf.cL,List.nodup_append.2 ⟨n2,n5,fun x hx y hy e=>?_⟩,fun g hg=>?_⟩
     ·subst e;exact hne (hr.hp.apart _ _ _ (n3 x hx).1 (n6 x hy).1)
     ·rcases List.mem_append.1 hg with hg|hg
      ·exact⟨.inl ⟨rfl,.inl (n3 g hg).1⟩,(n3 g hg).2⟩
      ·exact⟨.inl ⟨rfl,.inr (n6 g hg).1⟩,(n6 g hg).2⟩
    ·rw[aF k1] at hx;show B.on _ i (fun g=>(i=b1∧(O b1 g∨O b2 g))∨(i≠b1∧i≠b2∧O i g)) w x
     rw[hO i (Ne.symm k1) (Ne.symm k2)];exact(hr.hp.pc i x hx).le hle fun _ _=>rfl
  ·have hbd:=hr.hp.cj (b:=b1) (y:=(none,enc (gs1++gs2),1)) (x':=.df (v1+1)) hv.symm;rw[hv] at hbd;obtain⟨x,hx,hle⟩:=hbd i v y hy
   by_cases k2:b2=i
   ·subst k2;rw[aF hne,hf2] at hx
    cases hx;exact⟨_,a8,hle⟩
   ·exact⟨x,by rw[aF k2];exact hx,hle⟩
  ·rcases hi with ⟨rfl,hi⟩|⟨q1,q2,hi⟩<;>rcases hj with ⟨rfl,hj⟩|⟨q3,q4,hj⟩
   ·rfl
   ·rcases hi with hi|hi
    ·exact absurd (hr.hp.apart _ _ _ hj hi) q3
    ·exact absurd (hr.hp.apart _ _ _ hj hi) q4
   ·rcases hj with hj|hj
    ·exact absurd (hr.hp.apart _ _ _ hi hj) q1
    ·exact absurd (hr.hp.apart _ _ _ hi hj) q2
   ·exact hr.hp.apart _ _ _ hi hj
  ·obtain⟨k1,k2,k3⟩:=hr.hp.fz g hg;refine⟨k1,k2,fun i hi=>?_⟩;rcases hi with ⟨_,hi|hi⟩|⟨_,_,hi⟩
   ·exact k3 _ hi
   ·exact k3 _ hi
   ·exact k3 _ hi
  ·rcases hi with ⟨_,hi|hi⟩|⟨_,_,hi⟩
   ·exact hr.hp.lt _ _ hi
   ·exact hr.hp.lt _ _ hi
   ·exact hr.hp.lt _ _ hi
 ·have ho:=hr.old;refine⟨ho.os,ho.tape,ho.output,ho.size,ho.cu,fun i g hi=>?_,ho.mm,ho.le⟩;rcases hi with ⟨_,hi|hi⟩|⟨_,_,hi⟩
  ·exact ho.own _ _ hi
  ·exact ho.own _ _ hi
  ·exact ho.own _ _ hi
theorem Stp.FM(hf:lk h nx=none)(H:Stp (Sn P X f0 r ⟨⟨f,N,s,ki,(nx,0) :: ds,ro⟩,cs,(nx,.df 0) :: h,nx+1⟩)):Stp (Sn P X f0 r ⟨⟨f,N,s,ki,ds,ro⟩,cs,h,nx⟩):=⟨Sn.FM hf H.h⟩
theorem Stp.E8{b1 v1 b2 v2:Nat}(hb:Nat.beq b1 b2=false)(hf1:lk h b1=some (.df v1))(hf2:lk h b2=some (.df v2))(H:Stp (Sn P X f0 r ⟨⟨f,N,s,ki,(b1,v1+1) :: ds,ro⟩,cs,(b2,.gone v2) :: (b1,.df (v1+1)) :: h,nx⟩)):Stp (Sn P X f0 r ⟨⟨f,N,s,ki,(b1,v1) :: (b2,v2) :: ds,ro⟩,cs,h,nx⟩):=⟨Sn.E8 hb hf1 hf2 H.h⟩
theorem Stp.mq(k e sz:Nat)(hs:lk s k=some uq)(hf:lk h nx=none)(H:Stp (Sn P X f0 r ⟨⟨f,N,(k,.own nx 0) :: s,ki,ds,ro⟩,cs,(nx,.ro 0 e sz []) :: h,nx+1⟩)):Stp (Sn P X f0 r ⟨⟨f,N,s,ki,ds,ro⟩,cs,h,nx⟩):=⟨Sn.mq k e sz hs hf H.h⟩
theorem Stp.Bi(b t e sz:Nat){v:Nat}(hs:lk h b=some (.va v t [uq]))(hf:lk h nx=none)(H:Stp (Sn P X f0 r ⟨⟨f,N,s,ki,ds,ro⟩,cs,(b,.va v t [.own nx 0]) :: (nx,.ro 0 e sz []) :: h,nx+1⟩)):Stp (Sn P X f0 r ⟨⟨f,N,s,ki,ds,ro⟩,cs,h,nx⟩):=⟨Sn.Bi b t e sz hs hf H.h⟩
end
theorem cM.n{x y:Int}{h h':List (Nat×B)}(e:x=y)(hh:h=h'):cM (.fr (.vl (.int .i64 x))) h ⟨(F.vl (.int .i64 y)).toD,h'⟩:=⟨by rw[e];rfl,hh⟩
theorem cM.i{d d':D}{h h':List (Nat×B)}(e:d=d')(hh:h=h'):cM d h ⟨d',h'⟩:=⟨e,hh⟩
end Go.Km
end
section
namespace Go.Km
open Go Go.Vc Go.Proofs Go.Proofs.YtpbichnnflabdaaGreatDoor
def inl:List Nat:=[
 132,
 176,
 65,
 196,
 83,
 141,
 142,
 1000000]
def ars:List Nat:=[
 174,
 167,
 175,
 168,
 169,
 170,
 147,
 173,
 179,
 153,
 154,
 189,
 138,
 1000000]
noncomputable def X1:Tx where
 E:=tyE
 Γ:=Vc.lk Kw
 fi:=Vc.lk fiL
 pu:=fun f=>!inl.elem f
 Q:=fun _=>false
 bd:=fun _=>0
 bt:=fun _=>0
 u8:=0
 hp:=fun f=>ars.elem f
set_option maxRecDepth 100000 in
theorem dP:iA Tryz.prog X1 where
 E:=z7
 fi:=Fx
 mixed:=by kernel_rfl
 deep:=by
  have:Nat.ble 2 Tryz.prog.depth=true:=by kernel_rfl
  exact Nat.le_of_ble_eq_true this
 Q:=fun _ h=>by cases h
 bd:=fun _ _ h=>by cases h
def xj(ops:Array Oper):Nat→Nat→Nat→Bool
 | 0,_,_=>false
 | f+1,i,k=>match ops[i]? with
  | some o=>(o.after.any fun e=>Region.binds .any e&&Nat.beq e.on k)||(o.after.any fun e=>Region.binds .any e&&(Nat.blt k e.on&&xj ops f e.on k))
  | none=>false
theorem zn(ops:Array Oper):∀(f i k:Nat),xj ops f i k=true→Sl.cW ops f i k=true
 | 0,i,k,h=>by cases h
 | f+1,i,k,h=>by
  unfold xj at h;unfold Sl.cW
  split at h
  ·rename_i o ho;rw[ho];dsimp only;rw[Bool.or_eq_true,←Array.any_toList,←Array.any_toList,List.any_eq_true,List.any_eq_true] at h;rw[←Array.any_toList,List.any_eq_true];rcases h with ⟨e,he,h1⟩|⟨e,he,h1⟩
   ·rw[Bool.and_eq_true] at h1;exact⟨e,he,by rw[h1.1,h1.2];rfl⟩
   ·rw[Bool.and_eq_true,Bool.and_eq_true] at h1;exact⟨e,he,by rw[h1.1,zn ops f e.on k h1.2.2];simp⟩
  ·cases h
def Mx(ops:Array Oper)(acs:List Ac):Bool:=
 Region.noSelect ops&&(List.range ops.size).all fun i=>
  (match ops[i]? with|some o=>o.after.all fun e=>!Region.binds .any e||Nat.blt e.on i|none=>true) &&
  (List.range i).all fun k=>vw ops acs k i||xj ops 6 i k
theorem xi{ops:Array Oper}{acs:List Ac}(h:Mx ops acs=true):okD ops acs=true:=by
 unfold Mx at h;unfold okD;rw[Bool.and_eq_true,List.all_eq_true] at h ⊢;refine⟨h.1,fun i hi=>?_⟩;have h1:=h.2 i hi;rw[Bool.and_eq_true] at h1 ⊢;refine⟨h1.1,?_⟩;rw[List.all_eq_true];intro k hk;have h2:=List.all_eq_true.1 h1.2 k hk;rw[Bool.or_eq_true] at h2 ⊢;rcases h2 with h2|h2
 ·exact .inr h2
 ·exact .inl (zn ops 6 i k h2)
structure KB(p q:Prop):Prop where
 h:p
 k:q
structure KH(c p:Prop):Prop where
 h:c→p
structure KL(c:Prop)(p:c→Prop):Prop where
 h:∀h,p h
theorem kA{p q:Prop}(h:p)(k:q):KB p q:=⟨h,k⟩
theorem kI{c p:Prop}(h:c→p):KH c p:=⟨h⟩
theorem kL{c:Prop}{p:c→Prop}(h:∀h,p h):KL c p:=⟨h⟩
theorem KB.br{c d p q:Prop}(h:KB (Br c p) (Br d q)):BrA c d p q:=⟨h.h.h,h.k.h⟩
structure Nq(c d:Prop):Prop where
 h:c→d
theorem Nq.i{c d:Prop}(e:c=d:=by first|(simp only[List.length_map,List.length_append,List.length_take,List.length_drop,List.length_replicate,List.length_set,jM];rfl)|rfl):Nq c d:=⟨fun h=>e▸h⟩
theorem KH.br{c d p:Prop}(e:Nq c d)(h:KH d p):Br c p:=⟨fun x=>h.h (e.h x)⟩
theorem KL.ex{p:Prop}{k:p→Prop}(h:Nd p)(hk:KL p k):ExS p k:=⟨h.h,hk.h h.h⟩
theorem k9{p:Prop}(h:p:=by first|(apply Br.no;exact No.i)|with_reducible exact aq.r|((with_reducible apply aq.t);rfl)):p:=h
theorem k1 {p q:Prop} (k:q) (f:Sl.HN q→p:=by
 intro h
 (try (conv=>whnf))
 first
  | (with_reducible apply Arm.h)
  | (apply SdA.m;exact Nd.i)
  | (apply OrA.l;exact Nd.i)
  | apply OrA.r
  | (apply OkA.i;apply xi;kernel_rfl)
  | (with_reducible apply KB.br)
  | (apply KH.br;exact Nq.i;(conv=>arg 2;whnf))
  | (apply KL.ex;exact Nd.i;(conv=>arg 2;intro _;whnf))
  | (apply ExK.m;exact Kn.i)
 repeat
  (conv=>whnf)
  first
   | (with_reducible apply Arm.h)
   | (apply SdA.m;exact Nd.i)
   | (apply OrA.l;exact Nd.i)
   | apply OrA.r
   | (apply OkA.i;apply xi;kernel_rfl)
   | (with_reducible apply KB.br)
   | (apply KH.br;exact Nq.i;(conv=>arg 2;whnf))
   | (apply KL.ex;exact Nd.i;(conv=>arg 2;intro _;whnf))
   | (apply ExK.m;exact Kn.i)
 (try (conv=>whnf))
 exact h.go):p:=f ⟨k⟩
theorem k5 {p q:Prop} (k:q) (f:Sl.HN q→p:=by
 intro h
 first
  | (apply FoA.m;exact Kn.i)
  | apply FoA.o
  | apply Sn.go dP
  | (with_reducible show zO _ _)
 (conv=>whnf)
 exact h.go):p:=f ⟨k⟩
theorem k2 {p q:Prop} (k:q) (f:Sl.HN q→p:=by
 intro h
 first
  | (
   (try (conv=>whnf))
   first
    | (with_reducible apply Arm.h)
    | (apply SdA.m;exact Nd.i)
    | (apply OrA.l;exact Nd.i)
    | apply OrA.r
    | (apply OkA.i;apply xi;kernel_rfl)
    | (with_reducible apply KB.br)
    | (apply KH.br;exact Nq.i;(conv=>arg 2;whnf))
    | (apply KL.ex;exact Nd.i;(conv=>arg 2;intro _;whnf))
    | (apply ExK.m;exact Kn.i)
    | (apply FoA.m;exact Kn.i)
    | apply FoA.o
    | apply Sn.go dP
   )
  | ((with_reducible show zO _ _);(conv=>whnf))
 repeat
  (conv=>whnf)
  first
   | (with_reducible apply Arm.h)
   | (apply SdA.m;exact Nd.i)
   | (apply OrA.l;exact Nd.i)
   | apply OrA.r
   | (apply OkA.i;apply xi;kernel_rfl)
   | (with_reducible apply KB.br)
   | (apply KH.br;exact Nq.i;(conv=>arg 2;whnf))
   | (apply KL.ex;exact Nd.i;(conv=>arg 2;intro _;whnf))
   | (apply ExK.m;exact Kn.i)
   | (apply FoA.m;exact Kn.i)
   | apply FoA.o
   | apply Sn.go dP
 (try (conv=>whnf))
 exact h.go):p:=f ⟨k⟩
theorem KB.sd{p q:Prop}(h:KB (Nd p) q):SdA p q:=⟨h.h.h,h.k⟩
theorem k8 {p q:Prop} (k:q) (f:Sl.HN q→p:=by
 intro h
 first
  | (apply KB.sd;(conv=>arg 2;whnf);exact h.go)
  | (apply KB.ex;(conv=>arg 2;arg 2;intro _;whnf);exact h.go)):p:=f ⟨k⟩
theorem kf{f:FuncId}{fi:Fi}{l:List F}{r:F}{b:Bool}(hf:X1.fi f=some fi)(hN:Nat.ble l.length fi.N=true)(h:zO (wR f fi (l.map F.toD)) (g24 Tryz.prog X1 f (r,b))):Pure Tryz.prog X1.Γ f l r b:=fw dP hf hN h
end Go.Km
end
section
namespace Go.aa
open Go Go.Sl
def s8(b:Int):Bool:=decide (48≤b)&&decide (b≤57)
def ir(b:Int):Bool:=(decide (97≤b)&&decide (b≤122))||(decide (65≤b)&&decide (b≤90))||decide (b=95)
def eK(b:UInt8):Bool:=ir b.toNat||s8 b.toNat
def runN(l:List UInt8):Nat:=(l.takeWhile eK).length
def lj:List UInt8→Bool
 | []=>false
 | b :: _=>ir b.toNat
def fH(s:ByteArray):ByteArray:=if lj s.data.toList then s.extract 0 (runN s.data.toList) else ⟨#[]⟩
def gn(s:ByteArray):Bool:=decide (s.size≤32)&&lj s.data.toList&&s.data.toList.all eK
theorem Ie(l:List UInt8):runN l≤l.length:=by
 unfold runN;exact List.Sublist.length_le (List.takeWhile_sublist _)
theorem vf:∀(l:List UInt8) (k:Nat),k≤l.length→(∀j b,j<k→l[j]?=some b→eK b=true)→(∀b,l[k]?=some b→eK b=false)→k=runN l
 | [],k,hk,_,_=>by simp at hk;subst hk;rfl
 | c :: l,0,_,_,h2=>by
  have:=h2 c (by simp);simp[runN,List.takeWhile,this]
 | c :: l,k+1,hk,h1,h2=>by
  have hc:=h1 0 c (by omega) (by simp);have ih:=vf l k (by simpa using hk) (fun j b hj hb=>h1 (j+1) b (by omega) (by simpa using hb)) (fun b hb=>h2 b (by simpa using hb));simp only[runN,List.takeWhile_cons,hc,if_true,List.length_cons];simp only[runN] at ih;omega
theorem Hs(l:List UInt8):(runN l=l.length)↔l.all eK=true:=by
 induction l with
 | nil=>simp[runN]
 | cons c l ih=>
  unfold runN at *;rw[List.takeWhile_cons]
  by_cases hc:eK c=true
  ·simp[hc];simpa using ih
  ·simp[hc]
theorem sR(s:ByteArray):(fH s).size=if lj s.data.toList then runN s.data.toList else 0:=by
 unfold fH;have:=Ie s.data.toList;have hs:s.data.toList.length=s.size:=Array.length_toList
 split
 ·rw[ByteArray.size_extract];omega
 ·rfl
theorem Ap(s:ByteArray)(h:(fH s).size=s.size)(hs:s≠⟨#[]⟩):fH s=s:=by
 rw[sR] at h;have hs':s.data.toList.length=s.size:=Array.length_toList;unfold fH
 split at h
 ·rename_i hh;rw[if_pos hh,h];apply ByteArray.ext;simp
 ·exact absurd (ByteArray.ext (Array.eq_empty_of_size_eq_zero h.symm)) hs
theorem Cn(s:ByteArray):gn s=(!decide (s=⟨#[]⟩)&&decide (s.size≤32)&&decide ((fH s).size=s.size)):=by
 unfold gn;have hs:s.data.toList.length=s.size:=Array.length_toList;rw[sR]
 by_cases he:s=⟨#[]⟩
 ·subst he;simp[lj]
 ·have hne:s.size≠0:=fun h=>he (ByteArray.ext (Array.eq_empty_of_size_eq_zero h))
  cases hh:lj s.data.toList with
  | false=>
   have:¬(0=s.size):=by omega
   simp[he,this]
  | true=>
   have:=Hs s.data.toList;rw[hs] at this
   by_cases hb:s.data.toList.all eK=true
   ·simp only[this.2 hb,hb,he];simp
   ·have h2:¬(runN s.data.toList=s.size):=fun h=>hb (this.1 h)
    have hb':s.data.toList.all eK=false:=by simpa using hb
    rw[hb'];simp[h2]
theorem tD(s:ByteArray):gn s=(!decide (s=⟨#[]⟩)&&decide (s.size≤32)&&decide (fH s=s)):=by
 rw[Cn]
 by_cases he:s=⟨#[]⟩
 ·simp[he]
 ·congr 1
  rw[decide_eq_decide];exact⟨fun h=>Ap s h he,fun h=>by rw[h]⟩
theorem zG(s:ByteArray):gn s=(!decide (s=⟨#[]⟩)&&decide ((s.size:Int)≤32)&&decide (((fH s).size:Int)=(s.size:Int))):=by
 rw[Cn]
 congr 1
 ·congr 1
  rw[decide_eq_decide];omega
 ·rw[decide_eq_decide];omega
theorem Ew(s:ByteArray):gn s=(!decide (s=⟨#[]⟩)&&decide ((s.size:Int)≤32)&&decide (fH s=s)):=by
 rw[tD]
 congr 2
 rw[decide_eq_decide];omega
structure Bts where
 a:Int
 b:Int
 c:Int
 d:Int
deriving DecidableEq
structure Nod where
 kind:Int
 set:Bts
 text:ByteArray
 min:Int
 max:Int
 kids:List Int
deriving DecidableEq
structure Tre where
 nodes:List Nod
 root:Int
deriving DecidableEq
def Bts.zero:Bts:=⟨0,0,0,0⟩
def Nod.zero:Nod:=⟨0,.zero,⟨#[]⟩,0,0,[]⟩
def Tre.zero:Tre:=⟨[],0⟩
def fits(n:Nod)(kids:Int):Bool:=
 if n.kind=0 then decide (n.set=.zero)&&decide (n.text=⟨#[]⟩)&&decide (n.min=0)&&decide (n.max=0)&&decide (kids=0)
 else if n.kind=1 then decide (n.text=⟨#[]⟩)&&decide (n.min=0)&&decide (n.max=0)&&decide (kids=0)
 else if n.kind=2 then decide (n.set=.zero)&&decide (n.min=0)&&decide (n.max=0)&&decide (kids=0) && !decide (n.text=⟨#[]⟩)&&decide ((n.text.size:Int)≤255)
 else if n.kind=3 then decide (n.set=.zero)&&decide (n.min=0)&&decide (n.max=0)&&decide (kids=0)&&gn n.text
 else if n.kind=4∨n.kind=5 then decide (n.set=.zero)&&decide (n.text=⟨#[]⟩)&&decide (n.min=0)&&decide (n.max=0)&&decide (2≤kids)
 else if n.kind=6 then decide (n.set=.zero)&&decide (n.text=⟨#[]⟩)&&decide (kids=1)&&decide (0≤n.min)&&decide (n.min≤99)&&(decide (n.max=-1)||decide (n.min≤n.max)&&decide (n.max≤99))
 else if n.kind=7∨n.kind=8 then decide (n.set=.zero)&&decide (n.text=⟨#[]⟩)&&decide (n.min=0)&&decide (n.max=0)&&decide (kids=1)
 else if n.kind=9 then decide (n.set=.zero)&&decide (n.min=0)&&decide (n.max=0)&&decide (kids=1)&&gn n.text
 else false
def az(l:List Nod):List Int:=l.flatMap (·.kids)
def bX(i:Int):List Int→List Bool→Option (List Bool)
 | [],tk=>some tk
 | k :: l,tk=>if k<0∨i≤k∨tk.getD k.toNat false=true then none else bX i l (tk.set k.toNat true)
def cn:Nat→List Nod→List Bool→Option (List Bool)
 | _,[],tk=>some tk
 | i,n :: l,tk=>if fits n n.kids.length=true then (bX i n.kids tk).bind (cn (i+1) l) else none
def au(t:Tre):Bool:=
 decide (0≤t.root)&&decide (t.root<t.nodes.length)&&match cn 0 t.nodes (List.replicate t.nodes.length false) with
  | none=>false
  | some tk=>(List.range t.nodes.length).all fun i=>!(tk.getD i false==decide ((i:Int)=t.root))
theorem jv(i:Int):∀(l:List Int) (tk tk':List Bool),bX i l tk=some tk'→tk'.length=tk.length
 | [],tk,tk',h=>by simp[bX] at h;rw[h]
 | k :: l,tk,tk',h=>by
  unfold bX at h
  split at h
  ·cases h
  ·have:=jv i l _ _ h;simpa using this
def ni(ns:List Nod)(k:Int):List Int:=match ns[k.toNat]? with
 | some n=>n.kids
 | none=>[]
def bz(ch:Int→List Int):Prop:=∀k,∀x∈ch k,0≤x∧x<k
def dfs(ch:Int→List Int):Nat→List Int→List Int
 | 0,_=>[]
 | f+1,l=>l.flatMap fun k=>k :: dfs ch f (ch k)
def iH(ch:Int→List Int):Nat→List Int→List Int
 | 0,_=>[]
 | f+1,l=>l.flatMap fun k=>iH ch f (ch k)++[k]
def dY(ch:Int→List Int)(k:Int):List Int:=(ch k).reverse
theorem bG(ch:Int→List Int)(f:Nat):dfs ch f []=[]:=by cases f<;>rfl
theorem yU(ch:Int→List Int)(f:Nat):iH ch f []=[]:=by cases f<;>rfl
theorem bk(ch:Int→List Int)(f:Nat)(l m:List Int):dfs ch f (l++m)=dfs ch f l++dfs ch f m:=by cases f<;>simp[dfs]
theorem bz.rev{ch:Int→List Int}(h:bz ch):bz (dY ch):=fun k x hx=>h k x (by simpa [dY] using hx)
theorem nS{ch:Int→List Int}(h:bz ch):∀(f g:Nat) (l:List Int),(∀k∈l,0≤k∧k<f)→(∀k∈l,k<g)→dfs ch f l=dfs ch g l
 | 0,g,l,hf,hg=>by
  cases l with
  | nil=>rw[bG,bG]
  | cons k l=>have:=hf k (by simp);omega
 | f+1,0,l,hf,hg=>by
  cases l with
  | nil=>rw[bG,bG]
  | cons k l=>
   have:=hf k (by simp);have:=hg k (by simp);omega
 | f+1,g+1,l,hf,hg=>by
  show l.flatMap _=l.flatMap _
  rw[List.flatMap_def,List.flatMap_def]
  congr 1
  apply List.map_congr_left;intro k hk;have h1:=hf k hk;have h2:=hg k hk;rw[nS h f g (ch k) (fun x hx=>⟨(h k x hx).1,by have:=(h k x hx).2;omega⟩) (fun x hx=>by have:=(h k x hx).2;omega)]
theorem aP{ch:Int→List Int}(h:bz ch){f:Nat}{k:Int}{l:List Int}(h0:0≤k)(hk:k<f):dfs ch f (k :: l)=k :: (dfs ch f (ch k)++dfs ch f l):=by
 cases f with
 | zero=>omega
 | succ f=>
  have e:dfs ch f (ch k)=dfs ch (f+1) (ch k):=nS h f (f+1) (ch k) (fun x hx=>⟨(h k x hx).1,by have:=(h k x hx).2;omega⟩) (fun x hx=>by have:=(h k x hx).2;omega);rw[←e];simp[dfs]
theorem oT(ch:Int→List Int):∀(f:Nat) (l:List Int),(dfs (dY ch) f l.reverse).reverse=iH ch f l
 | 0,l=>rfl
 | f+1,l=>by
  induction l with
  | nil=>rfl
  | cons k l ih=>
   rw[List.reverse_cons,bk,List.reverse_append,ih];have h1:=oT ch f (ch k);simp only[dfs,iH,List.flatMap_cons,List.flatMap_nil,List.append_nil,List.reverse_cons];rw[show dY ch k=(ch k).reverse from rfl,h1]
theorem dg{ch:Int→List Int}(f:Nat)(l:List Int)(hf:0<f):l.length≤(dfs ch f l).length:=by
 cases f with
 | zero=>omega
 | succ f=>
  induction l with
  | nil=>simp
  | cons k l ih=>
   simp only[dfs,List.flatMap_cons,List.length_append,List.length_cons] at ih ⊢;omega
theorem ef{ch:Int→List Int}:∀(f:Nat) (l:List Int),(dfs (dY ch) f l).length=(dfs ch f l).length
 | 0,l=>rfl
 | f+1,l=>by
  induction l with
  | nil=>rfl
  | cons k l ih=>
   simp only[dfs,List.flatMap_cons,List.length_append,List.length_cons] at ih ⊢;have h1:=ef (ch:=ch) f (dY ch k);have h2:∀(f:Nat) (m:List Int),(dfs ch f m.reverse).length=(dfs ch f m).length:=by
    intro f m
    induction m with
    | nil=>rfl
    | cons x m ihm=>rw[List.reverse_cons,bk,List.length_append,ihm,show x :: m=[x]++m from rfl,bk,List.length_append];omega
   rw[h1,show dY ch k=(ch k).reverse from rfl,h2,ih]
theorem bM{α:Type}(l:List α):l=[]∨∃init x,l=init++[x]:=by
 rcases List.eq_nil_or_concat l with h|⟨a,b,h⟩
 ·exact .inl h
 ·exact .inr ⟨a,b,by rw[h,List.concat_eq_append]⟩
def KOk(ns:List Nod):Prop:=∀(i:Nat) n,ns[i]?=some n→∀k∈n.kids,0≤k∧k<i
theorem KOk.ch{ns:List Nod}(h:KOk ns):bz (fun k=>if k<0 then [] else ni ns k):=by
 intro k x hx
 by_cases h0:k<0
 ·simp[h0] at hx
 ·simp only[h0,if_false,ni] at hx
  cases hn:ns[k.toNat]? with
  | none=>simp[hn] at hx
  | some n=>
   simp only[hn] at hx;have:=h _ _ hn x hx;omega
theorem xO(l:List Bool)(i j:Nat)(b:Bool)(hi:i<l.length):(l.set i b).getD j false=if i=j then b else l.getD j false:=by
 simp only[List.getD_eq_getElem?_getD,List.getElem?_set]
 by_cases h:i=j
 ·subst h;simp[hi]
 ·simp[h]
theorem gK(i:Int):∀(l:List Int) (tk tk':List Bool),i≤tk.length→bX i l tk=some tk'→
  (∀k∈l,0≤k∧k<i)∧∀j:Nat,(tk'.getD j false).toNat=(tk.getD j false).toNat+l.count (j:Int)
 | [],tk,tk',_,h=>by simp[bX] at h;subst h;simp
 | k :: l,tk,tk',hi,h=>by
  unfold bX at h
  split at h
  ·cases h
  ·rename_i hc;have h0:0≤k∧k<i:=by omega
   have htk:tk.getD k.toNat false=false:=by
    cases hh:tk.getD k.toNat false with
    | false=>rfl
    | true=>exact absurd (.inr (.inr hh)) hc
   obtain⟨h1,h2⟩:=gK i l _ _ (by simpa using hi) h;refine⟨fun x hx=>?_,fun j=>?_⟩
   ·rcases List.mem_cons.1 hx with rfl|hx
    ·exact h0
    ·exact h1 x hx
   ·rw[h2 j,xO _ _ _ _ (by omega),List.count_cons]
    by_cases hj:k.toNat=j
    ·subst hj;rw[if_pos rfl,htk];have:(k==((k.toNat:Nat):Int))=true:=by simp;omega
     rw[this];simp;omega
    ·rw[if_neg hj];have:(k==(j:Int))=false:=by simp;omega
     rw[this];simp
theorem fO:∀(l:List Nod) (i:Nat) (tk tk':List Bool),i+l.length≤tk.length→cn i l tk=some tk'→
  (∀(j:Nat) n,l[j]?=some n→fits n n.kids.length=true∧∀k∈n.kids,0≤k∧k<((i+j:Nat):Int))∧
   ∀j:Nat,(tk'.getD j false).toNat=(tk.getD j false).toNat+(az l).count (j:Int)
 | [],i,tk,tk',_,h=>by simp[cn] at h;subst h;simp[az]
 | n :: l,i,tk,tk',hi,h=>by
  unfold cn at h
  split at h
  ·rename_i hf;obtain⟨t1,ht1,h⟩:=Option.bind_eq_some_iff.1 h;simp only[List.length_cons] at hi;obtain⟨a1,a2⟩:=gK i n.kids tk t1 (by omega) ht1;have hl:=jv i _ _ _ ht1;obtain⟨b1,b2⟩:=fO l (i+1) t1 tk' (by omega) h;refine⟨fun j m hj=>?_,fun j=>?_⟩
   ·cases j with
    | zero=>
     simp at hj;subst hj;exact⟨hf,fun k hk=>by have:=a1 k hk;omega⟩
    | succ j=>
     simp at hj;refine⟨(b1 j m hj).1,fun k hk=>?_⟩;have:=(b1 j m hj).2 k hk;omega
   ·rw[b2 j,a2 j];simp only[az,List.flatMap_cons,List.count_append];omega
  ·cases h
structure aw(t:Tre):Prop where
 root:0≤t.root∧t.root<t.nodes.length
 fits:∀(i:Nat) n,t.nodes[i]?=some n→fits n n.kids.length=true
 kok:KOk t.nodes
 count:∀i:Nat,i<t.nodes.length→(az t.nodes).count (i:Int)=if (i:Int)=t.root then 0 else 1
theorem ao{t:Tre}(h:au t=true):aw t:=by
 unfold au at h;simp only[Bool.and_eq_true,decide_eq_true_eq] at h;obtain⟨⟨h1,h2⟩,h3⟩:=h
 split at h3
 ·cases h3
 ·rename_i tk htk;obtain⟨a,b⟩:=fO t.nodes 0 _ _ (by simp) htk;refine⟨⟨h1,h2⟩,fun i n hi=>(a i n hi).1,fun i n hi k hk=>?_,fun i hi=>?_⟩
  ·have:=(a i n hi).2 k hk;omega
  ·have hb:=b i;rw[List.all_eq_true] at h3;have hc:=h3 i (by simpa using hi);rw[show(List.replicate t.nodes.length false).getD i false=false by simp[List.getD_eq_getElem?_getD,List.getElem?_replicate];split<;>rfl] at hb
   by_cases hr:(i:Int)=t.root
   ·rw[if_pos hr];simp only[hr,decide_true] at hc
    cases hv:tk.getD i false with
    | false=>rw[hv] at hb;simp at hb;omega
    | true=>rw[hv] at hc;simp at hc
   ·rw[if_neg hr];simp only[hr,decide_false] at hc
    cases hv:tk.getD i false with
    | false=>rw[hv] at hc;simp at hc
    | true=>rw[hv] at hb;simp at hb;omega
def ae(ns:List Nod)(k:Int):List Int:=if k<0 then [] else ni ns k
theorem KOk.ae{ns:List Nod}(h:KOk ns):bz (ae ns):=h.ch
theorem aH{ns:List Nod}{i:Nat}{n:Nod}(h:ns[i]?=some n):n.kids=ae ns i:=by
 have:¬((i:Int)<0):=by omega
 simp[ae,ni,h,this]
theorem D2{ns:List Nod}{k:Int}(h:(ns.length:Int)≤k):ae ns k=[]:=by
 unfold ae ni
 split
 ·rfl
 ·rw[List.getElem?_eq_none (by omega)]
theorem uh{ns:List Nod}:((List.range ns.length).map Int.ofNat).flatMap (ae ns)=az ns:=by
 unfold az;rw[List.flatMap_def,List.flatMap_def,List.map_map]
 congr 1
 apply List.ext_getElem?;intro i;rw[List.getElem?_map,List.getElem?_map]
 by_cases hi:i<ns.length
 ·rw[List.getElem?_range hi,List.getElem?_eq_getElem hi];simp only[Option.map_some,Function.comp];exact congrArg some (aH (List.getElem?_eq_getElem hi)).symm
 ·rw[List.getElem?_eq_none (by simpa using hi),List.getElem?_eq_none (by simpa using hi)];rfl
theorem vE{ch:Int→List Int}(hc:bz ch)(x:Int):∀(f:Nat) (l:List Int),(∀k∈l,0≤k∧k<f)→(dfs ch f l).count x=l.count x+((dfs ch f l).flatMap ch).count x
 | 0,l,h=>by
  cases l with
  | nil=>simp[dfs]
  | cons k l=>have:=h k (by simp);omega
 | f+1,l,h=>by
  induction l with
  | nil=>simp[dfs]
  | cons k l ih=>
   have ih:=ih (fun y hy=>h y (by simp[hy]));have hk:=h k (by simp);have h2:=vE hc x f (ch k) (fun y hy=>⟨(hc k y hy).1,by have:=(hc k y hy).2;omega⟩);simp only[dfs,List.flatMap_cons,List.count_append,List.count_cons,List.flatMap_append] at ih h2 ⊢;omega
theorem fC{ch:Int→List Int}(hc:bz ch):∀(f:Nat) (l:List Int),(∀k∈l,0≤k∧k<f)→∀x∈dfs ch f l,0≤x∧x<f
 | 0,l,h,x,hx=>by simp[dfs] at hx
 | f+1,l,h,x,hx=>by
  simp only[dfs,List.mem_flatMap,List.mem_cons] at hx;obtain⟨k,hk,rfl|hx⟩:=hx
  ·exact h x hk
  ·have hk:=h k hk;have:=fC hc f (ch k) (fun y hy=>⟨(hc k y hy).1,by have:=(hc k y hy).2;omega⟩) x hx;omega
theorem Iw{ch:Int→List Int}(f:Nat)(l:List Int)(hf:0<f):l.Sublist (dfs ch f l):=by
 cases f with
 | zero=>omega
 | succ f=>
  induction l with
  | nil=>simp
  | cons k l ih=>
   simp only[dfs,List.flatMap_cons] at ih ⊢;exact List.Sublist.cons_cons k (ih.trans (List.sublist_append_right _ _))
theorem BR{ch:Int→List Int}(hc:bz ch):∀(f:Nat) (l:List Int),(∀k∈l,0≤k∧k<f)→∀y∈dfs ch f l,(y :: ch y).Sublist (dfs ch f l)
 | 0,l,h,y,hy=>by simp[dfs] at hy
 | f+1,l,h,y,hy=>by
  simp only[dfs,List.mem_flatMap,List.mem_cons] at hy;obtain⟨k,hk,hy⟩:=hy;have hkf:=h k hk;have hin:(k :: dfs ch f (ch k)).Sublist (dfs ch (f+1) l):=by
   obtain⟨a,b,rfl⟩:=List.append_of_mem hk;simp only[dfs,List.flatMap_append,List.flatMap_cons];exact(List.sublist_append_left _ _).trans (List.sublist_append_right _ _)
  refine List.Sublist.trans ?_ hin;rcases hy with rfl|hy
  ·by_cases hf:0<f
   ·exact List.Sublist.cons_cons y (Iw f _ hf)
   ·have:ch y=[]:=by
     cases hy:ch y with
     | nil=>rfl
     | cons z l=>have:=hc y z (by rw[hy];simp);omega
    rw[this];simp
  ·exact(BR hc f (ch k) (fun z hz=>⟨(hc k z hz).1,by have:=(hc k z hz).2;omega⟩) y hy).cons k
def xe(t:Tre):List Int:=dfs (ae t.nodes) t.nodes.length [t.root]
theorem mU(N:Nat)(x:Int):((List.range N).map Int.ofNat).count x=if 0≤x∧x<N then 1 else 0:=by
 have hnd:((List.range N).map Int.ofNat).Nodup:=by
  refine List.Pairwise.map _ (fun a b (h:a≠b)=>?_) List.nodup_range;exact fun e=>h (Int.ofNat.inj e)
 by_cases h:0≤x∧x<N
 ·rw[if_pos h,hnd.count,if_pos];refine List.mem_map.2 ⟨x.toNat,List.mem_range.2 (by omega),?_⟩;show((x.toNat:Nat):Int)=x
  omega
 ·rw[if_neg h];refine List.count_eq_zero.2 fun hm=>h ?_
  obtain⟨y,hy,rfl⟩:=List.mem_map.1 hm;have:=List.mem_range.1 hy;exact⟨Int.natCast_nonneg y,by show((y:Nat):Int)<N;omega⟩
theorem lE{t:Tre}(h:aw t):∀(d:Nat) (x:Int),0≤x→x<t.nodes.length→t.nodes.length≤x.toNat+d→(xe t).count x=1
 | 0,x,h0,h1,h2=>by omega
 | d+1,x,h0,h1,h2=>by
  have hc:=h.kok.ae;have hl:∀k∈[t.root],0≤k∧k<(t.nodes.length:Int):=by
   intro k hk;simp at hk;subst hk;exact h.root
  have e:=vE hc x t.nodes.length [t.root] hl;have hf:∀D:List Int,(D.flatMap (ae t.nodes)).count x=((D.filter (fun y=>decide (x<y))).flatMap (ae t.nodes)).count x:=by
   intro D
   induction D with
   | nil=>rfl
   | cons y D ih=>
    rw[List.flatMap_cons,List.count_append,ih,List.filter_cons]
    by_cases hy:x<y
    ·simp[hy]
    ·simp only[hy,decide_false,Bool.false_eq_true,if_false];have:(ae t.nodes y).count x=0:=List.count_eq_zero.2 fun hm=>by have:=(hc y x hm).2;omega
     omega
  have hp:((dfs (ae t.nodes) t.nodes.length [t.root]).filter (fun y=>decide (x<y))).Perm (((List.range t.nodes.length).map Int.ofNat).filter (fun y=>decide (x<y))):=by
   rw[List.perm_iff_count];intro y
   by_cases hy:x<y
   ·rw[List.count_filter (by simpa using hy),List.count_filter (by simpa using hy),mU]
    by_cases hn:y<t.nodes.length
    ·rw[if_pos ⟨by omega,hn⟩];exact lE h d y (by omega) hn (by omega)
    ·rw[if_neg (by omega)];exact List.count_eq_zero.2 fun hm=>hn (fC hc _ _ hl y hm).2
   ·rw[List.count_eq_zero.2 (fun hm=>by have:=(List.mem_filter.1 hm).2;simp at this;omega),List.count_eq_zero.2 (fun hm=>by have:=(List.mem_filter.1 hm).2;simp at this;omega)]
  have e2:=(hp.flatMap_right (ae t.nodes)).count_eq x;rw[←hf,←hf,uh] at e2;have e3:=h.count x.toNat (by omega);rw[show((x.toNat:Nat):Int)=x by omega] at e3;unfold xe;rw[e,e2,e3,List.count_cons,List.count_nil]
  by_cases hr:x=t.root
  ·subst hr;simp
  ·have:(t.root==x)=false:=by simp;omega
   simp[hr,this]
structure Mm(t:Tre)(row:List Int):Prop where
 len:row.length=t.nodes.length
 head:row.head?=some t.root
 nodup:row.Nodup
 mem:∀x,x∈row↔0≤x∧x<t.nodes.length
 kids:∀(i:Nat) n,t.nodes[i]?=some n→((i:Int) :: n.kids).Sublist row
theorem kg{t:Tre}(h:aw t):Mm t (xe t):=by
 have hc:=h.kok.ae;have hl:∀k∈[t.root],0≤k∧k<(t.nodes.length:Int):=by
  intro k hk;simp at hk;subst hk;exact h.root
 have hmem:∀x,x∈xe t↔0≤x∧x<t.nodes.length:=by
  intro x;refine⟨fun hx=>fC hc _ _ hl x hx,fun hx=>?_⟩;have:=lE h t.nodes.length x hx.1 hx.2 (by omega);exact List.count_pos_iff.1 (by omega)
 have hp:(xe t).Perm ((List.range t.nodes.length).map Int.ofNat):=by
  rw[List.perm_iff_count];intro y;rw[mU]
  by_cases hy:0≤y∧y<t.nodes.length
  ·rw[if_pos hy];exact lE h t.nodes.length y hy.1 hy.2 (by omega)
  ·rw[if_neg hy];exact List.count_eq_zero.2 fun hm=>hy ((hmem y).1 hm)
 refine⟨by rw[hp.length_eq];simp,?_,?_,hmem,fun i n hn=>?_⟩
 ·unfold xe;rw[aP hc h.root.1 h.root.2];rfl
 ·rw[hp.nodup_iff];refine List.Pairwise.map _ (fun a b (h:a≠b)=>?_) List.nodup_range;exact fun e=>h (Int.ofNat.inj e)
 ·have hi:=(List.getElem?_eq_some_iff.1 hn).1;rw[aH hn];exact BR hc _ _ hl i ((hmem i).2 ⟨by omega,by omega⟩)
def aQ(t:Tre)(node:Int):List Int:=iH (ae t.nodes) t.nodes.length [node]
def aY(ns:List Nod):Nat→List Int→List Int→List Nod
 | _,_,[]=>[]
 | i,place,k :: l=>
  { ns.getD k.toNat .zero with kids:=(ns.getD k.toNat .zero).kids.map fun x=>(place.set k.toNat i).getD x.toNat 0 } :: aY ns (i+1) (place.set k.toNat i) l
def aD(t:Tre)(node:Int):Tre:=⟨aY t.nodes 0 (List.replicate t.nodes.length 0) (aQ t node),(aQ t node).length - 1⟩
def bl(ns:List Nod)(by_:Int):List Nod:=ns.map fun n=>{ n with kids:=n.kids.map (· + by_) }
def iI:List Tre→List Nod→List Int→Option (List Nod×List Int)
 | [],a,l=>some (a,l)
 | k :: ks,a,l=>if au k=true then iI ks (a++bl (aD k k.root).nodes a.length) (l++[((a.length+(aD k k.root).nodes.length:Nat):Int) - 1]) else none
def ofP(n:Nod)(kids:List Tre):Tre×Bool:=
 if fits n kids.length=true then match iI kids [] [] with
  | some (a,l)=>(⟨a++[{ n with kids:=l }],a.length⟩,true)
  | none=>(.zero,false)
 else (.zero,false)
def aI(t:Tre):Tre:=if au t=true then aD t t.root else .zero
def BX(a b:Tre):Bool:=decide (a.nodes.length=b.nodes.length)&&au a&&au b&&decide ((aD a a.root).nodes=(aD b b.root).nodes)
def kK(t:Tre):Int:=if au t=true then t.nodes.length else 0
def js(deep:List Int)(d:Int):List Int→Int
 | []=>d
 | k :: l=>js deep (max d (deep.getD k.toNat 0)) l
def nE:List Nod→List Int→List Int
 | [],deep=>deep
 | n :: l,deep=>nE l (deep++[js deep 0 n.kids+1])
def nH(t:Tre):Int:=if au t=true then (nE t.nodes []).getD t.root.toNat 0 else 0
def rn(t:Tre):Bool:=decide (t.nodes.length≤1024)&&au t&&decide (nH t≤32)
def qQ(n:Nod):Tre:=⟨[n],0⟩
def dA:Nod:=⟨0,.zero,⟨#[]⟩,0,0,[]⟩
theorem tU(ch:Int→List Int):∀(f:Nat) (l:List Int) (x:Int),(iH ch f l).count x=(dfs ch f l).count x
 | 0,l,x=>rfl
 | f+1,l,x=>by
  induction l with
  | nil=>rfl
  | cons k l ih=>
   simp only[dfs,iH,List.flatMap_cons,List.count_append,List.count_cons,List.count_nil] at ih ⊢;have:=tU ch f (ch k) x;omega
theorem cP(ch:Int→List Int)(f:Nat)(l:List Int):(iH ch f l).Perm (dfs ch f l):=List.perm_iff_count.2 (tU ch f l)
theorem gE(ns:List Nod):∀(l:List Int) (i:Nat) (pl:List Int),(aY ns i pl l).length=l.length
 | [],_,_=>rfl
 | k :: l,i,pl=>by simp[aY,gE ns l]
theorem gO{ch:Int→List Int}(hc:bz ch)(f:Nat):∀(m:Nat) (l:List Int),(∀k∈l,0≤k∧k<m)→m≤f→∀y∈dfs ch f l,(dfs ch f [y]).length≤(dfs ch f l).length
 | 0,l,h,hf,y,hy=>by
  cases l with
  | nil=>rw[bG] at hy;cases hy
  | cons k l=>have:=h k (by simp);omega
 | m+1,l,h,hf,y,hy=>by
  induction l with
  | nil=>rw[bG] at hy;cases hy
  | cons k l ih=>
   have hk:=h k (by simp);rw[aP hc hk.1 (by omega)] at hy ⊢;have ih:=ih (fun z hz=>h z (by simp[hz]));simp only[List.length_cons,List.length_append];rcases List.mem_cons.1 hy with rfl|hy
   ·rw[aP hc hk.1 (by omega),bG];simp
   ·rcases List.mem_append.1 hy with hy|hy
    ·have:=gO hc f m (ch k) (fun z hz=>⟨(hc k z hz).1,by have:=(hc k z hz).2;omega⟩) (by omega) y hy;omega
    ·have:=ih hy;omega
theorem LZ{t:Tre}(h:aw t){node:Int}(h0:0≤node)(hn:node<t.nodes.length):(dfs (ae t.nodes) t.nodes.length [node]).length≤t.nodes.length:=by
 have hr:=kg h;have:=gO h.kok.ae t.nodes.length t.nodes.length [t.root] (by intro k hk;simp at hk;subst hk;exact h.root) (Nat.le_refl _) node ((hr.mem node).2 ⟨h0,hn⟩);have e:(dfs (ae t.nodes) t.nodes.length [t.root]).length=t.nodes.length:=hr.len;omega
theorem fp{t:Tre}(h:aw t){node:Int}(h0:0≤node)(hn:node<t.nodes.length):(aQ t node).length≤t.nodes.length:=by
 rw[aQ,(cP _ _ _).length_eq];exact LZ h h0 hn
theorem s9{t:Tre}(h:aw t){node:Int}(h0:0≤node)(hn:node<t.nodes.length):∀x∈aQ t node,0≤x∧x<t.nodes.length:=by
 intro x hx;rw[aQ,(cP _ _ _).mem_iff] at hx;exact fC h.kok.ae _ _ (by intro k hk;simp at hk;subst hk;exact⟨h0,hn⟩) x hx
inductive Fo where
 | nil
 | cons (n:Nod) (k r:Fo)
deriving DecidableEq
def Fo.size:Fo→Nat
 | nil=>0
 | cons _ k r=>k.size+1+r.size
def Fo.len:Fo→Nat
 | nil=>0
 | cons _ _ r=>r.len+1
def Fo.ba:Nat→Fo→List Int
 | _,nil=>[]
 | o,cons _ k r=>((o+k.size:Nat):Int) :: r.ba (o+k.size+1)
def Fo.ar:Nat→Fo→List Nod
 | _,nil=>[]
 | o,cons n k r=>k.ar o++{ n with kids:=k.ba o } :: r.ar (o+k.size+1)
def Fo.fit:Fo→Bool
 | nil=>true
 | cons n k r=>fits n k.len&&k.fit&&r.fit
def Fo.bare:Fo→Prop
 | nil=>True
 | cons n k r=>n.kids=[]∧k.bare∧r.bare
def Fo.depth:Fo→Int
 | nil=>0
 | cons _ k r=>max (k.depth+1) r.depth
def Fo.app:Fo→Fo→Fo
 | nil,g=>g
 | cons n k r,g=>cons n k (r.app g)
def dat(ns:List Nod)(k:Int):Nod:={ ns.getD k.toNat .zero with kids:=[] }
def aC(ns:List Nod):Nat→List Int→Fo
 | 0,_=>.nil
 | f+1,l=>l.foldr (fun k r=>.cons (dat ns k) (aC ns f (ae ns k)) r) .nil
def foT(t:Tre):Fo:=aC t.nodes t.nodes.length [t.root]
def cg(F:Fo):Tre:=⟨F.ar 0,(F.size:Int) - 1⟩
theorem mg(n:Nod)(ks:List Int)(c:Int):fits { n with kids:=ks } c=fits n c:=rfl
theorem ay(ns:List Nod)(f:Nat):aC ns f []=.nil:=by cases f<;>rfl
theorem aK(ns:List Nod)(f:Nat)(k:Int)(l:List Int):aC ns (f+1) (k :: l)=.cons (dat ns k) (aC ns f (ae ns k)) (aC ns (f+1) l):=rfl
theorem Fo.bJ:∀(F:Fo) (o:Nat),(F.ar o).length=F.size
 | nil,_=>rfl
 | cons n k r,o=>by simp[ar,size,bJ k,bJ r];omega
theorem Fo.eH:∀(F:Fo) (o:Nat),(F.ba o).length=F.len
 | nil,_=>rfl
 | cons n k r,o=>by simp[ba,len,eH r]
theorem Fo.sZ:∀(F:Fo) (o:Nat),∀x∈F.ba o,(o:Int)≤x∧x<((o+F.size:Nat):Int)
 | nil,_,x,h=>by simp[ba] at h
 | cons n k r,o,x,h=>by
  simp only[ba,List.mem_cons] at h;simp only[size];rcases h with rfl|h
  ·omega
  ·have:=sZ r _ x h;omega
theorem gy(ns:List Nod):∀(f:Nat) (l:List Int),(aC ns f l).bare
 | 0,l=>trivial
 | f+1,l=>by
  induction l with
  | nil=>exact trivial
  | cons k l ih=>exact⟨rfl,gy ns f _,ih⟩
theorem zP(ns:List Nod):∀(f:Nat) (l:List Int),0<f→(aC ns f l).len=l.length
 | 0,l,h=>by omega
 | f+1,l,h=>by
  induction l with
  | nil=>rfl
  | cons k l ih=>rw[aK,Fo.len,ih];rfl
theorem dO{ns:List Nod}(h:bz (ae ns)):∀(f g:Nat) (l:List Int),(∀k∈l,0≤k∧k<f)→(∀k∈l,k<g)→aC ns f l=aC ns g l
 | 0,g,l,hf,hg=>by
  cases l with
  | nil=>rw[ay,ay]
  | cons k l=>have:=hf k (by simp);omega
 | f+1,0,l,hf,hg=>by
  cases l with
  | nil=>rw[ay,ay]
  | cons k l=>
   have:=hf k (by simp);have:=hg k (by simp);omega
 | f+1,g+1,l,hf,hg=>by
  induction l with
  | nil=>rfl
  | cons k l ih=>
   have h1:=hf k (by simp);have h2:=hg k (by simp);rw[aK,aK,ih (fun x hx=>hf x (by simp[hx])) (fun x hx=>hg x (by simp[hx])),
    dO h f g (ae ns k) (fun x hx=>⟨(h k x hx).1,by have:=(h k x hx).2;omega⟩) (fun x hx=>by have:=(h k x hx).2;omega)]
theorem pr(l:List Int)(i j:Nat)(b:Int):(l.set i b).getD j 0=if i=j∧i<l.length then b else l.getD j 0:=by
 simp only[List.getD_eq_getElem?_getD,List.getElem?_set]
 by_cases h:i=j
 ·subst h
  by_cases hl:i<l.length
  ·simp[hl]
  ·simp[hl]
 ·simp[h]
theorem jC{ns:List Nod}(hc:bz (ae ns)):∀(f:Nat) (l:List Int) (i:Nat) (pl rest:List Int),(∀k∈l,0≤k∧k<f)→f≤ns.length→pl.length=ns.length→(iH (ae ns) f l).Nodup→
  ∃pl':List Int,pl'.length=ns.length∧aY ns i pl (iH (ae ns) f l++rest)=(aC ns f l).ar i++aY ns (i+(aC ns f l).size) pl' rest∧
   (l.map fun x=>pl'.getD x.toNat 0)=(aC ns f l).ba i∧∀x:Int,0≤x→x ∉ iH (ae ns) f l→pl'.getD x.toNat 0=pl.getD x.toNat 0
 | 0,l,i,pl,rest,hl,hf,hp,hn=>by
  cases l with
  | nil=>exact⟨pl,hp,by simp[yU,ay,Fo.ar,Fo.size],rfl,fun _ _ _=>rfl⟩
  | cons k l=>have:=hl k (by simp);omega
 | f+1,[],i,pl,rest,hl,hf,hp,hn=>⟨pl,hp,by simp[yU,ay,Fo.ar,Fo.size],rfl,fun _ _ _=>rfl⟩
 | f+1,k :: l,i,pl,rest,hl,hf,hp,hn=>by
  have hk:=hl k (by simp);have hchk:∀x∈ae ns k,0≤x∧x<(f:Int):=fun x hx=>⟨(hc k x hx).1,by have:=(hc k x hx).2;omega⟩
  have e:iH (ae ns) (f+1) (k :: l)=iH (ae ns) f (ae ns k)++(k :: iH (ae ns) (f+1) l):=by simp[iH]
  rw[e] at hn ⊢;obtain⟨n1,n2,n3⟩:=List.nodup_append.1 hn;obtain⟨n4,n5⟩:=List.nodup_cons.1 n2;obtain⟨p1,q1,q2,q3,q4⟩:=jC hc f (ae ns k) i pl (k :: iH (ae ns) (f+1) l++rest) hchk (by omega) hp n1;have hkl:k.toNat<p1.length:=by omega
  obtain⟨p2,r1,r2,r3,r4⟩:=jC hc (f+1) l (i+(aC ns f (ae ns k)).size+1) (p1.set k.toNat ((i+(aC ns f (ae ns k)).size:Nat):Int)) rest (fun x hx=>hl x (by simp[hx])) hf (by simpa using q1) n5;have hkd:ns.getD k.toNat .zero={ dat ns k with kids:=ae ns k }:=by
   have:k.toNat<ns.length:=by omega
   have h2:=List.getElem?_eq_getElem this;have h3:=aH h2;rw[show((k.toNat:Nat):Int)=k by omega] at h3;simp only[dat,List.getD_eq_getElem?_getD,h2,Option.getD_some];rw[←h3]
  have hks:(ae ns k).map (fun x=>(p1.set k.toNat ((i+(aC ns f (ae ns k)).size:Nat):Int)).getD x.toNat 0)=(aC ns f (ae ns k)).ba i:=by
   rw[←q3];apply List.map_congr_left;intro x hx;have:=hchk x hx;have:=(hc k x hx).2;rw[pr,if_neg (by omega)]
  refine⟨p2,r1,?_,?_,?_⟩
  ·rw[List.append_assoc,q2];simp only[List.cons_append,aY];rw[r2,hkd,aK];simp only[Fo.ar,Fo.size,hks,List.append_assoc,List.cons_append];rw[show i+((aC ns f (ae ns k)).size+1+(aC ns (f+1) l).size)=i+(aC ns f (ae ns k)).size+1+(aC ns (f+1) l).size by omega]
  ·rw[aK,Fo.ba,List.map_cons,r3,r4 k hk.1 n4,pr,if_pos ⟨rfl,hkl⟩]
  ·intro x h0 hx;simp only[List.mem_append,List.mem_cons,not_or] at hx;rw[r4 x h0 hx.2.2,pr,if_neg (by omega),q4 x h0 hx.1]
theorem iY(ns:List Nod):∀(f:Nat) (l:List Int),(aC ns f l).size=(iH (ae ns) f l).length
 | 0,l=>rfl
 | f+1,l=>by
  induction l with
  | nil=>rfl
  | cons k l ih=>
   rw[aK,Fo.size,ih,iY ns f];simp[iH];omega
theorem xz{t:Tre}(h:aw t){node:Int}(h0:0≤node)(hn:node<t.nodes.length):(iH (ae t.nodes) t.nodes.length [node]).Nodup:=by
 rw[(cP _ _ _).nodup_iff];have hr:=kg h;have key:∀(m:Nat) (l:List Int),(∀k∈l,0≤k∧k<m)→m≤t.nodes.length→(dfs (ae t.nodes) t.nodes.length l).Nodup→∀y∈dfs (ae t.nodes) t.nodes.length l,(dfs (ae t.nodes) t.nodes.length [y]).Nodup:=by
  intro m
  induction m with
  | zero=>
   intro l hl _ _ y hy
   cases l with
   | nil=>rw[bG] at hy;cases hy
   | cons k l=>have:=hl k (by simp);omega
  | succ m ihm=>
   intro l hl hm hnd y hy
   induction l with
   | nil=>rw[bG] at hy;cases hy
   | cons k l ih=>
    have hk:=hl k (by simp);rw[aP h.kok.ae hk.1 (by omega)] at hy hnd;obtain⟨a1,a2⟩:=List.nodup_cons.1 hnd;obtain⟨b1,b2,b3⟩:=List.nodup_append.1 a2;rcases List.mem_cons.1 hy with rfl|hy
    ·rw[aP h.kok.ae hk.1 (by omega),bG,List.append_nil];exact List.nodup_cons.2 ⟨fun hh=>a1 (by simp[hh]),b1⟩
    ·rcases List.mem_append.1 hy with hy|hy
     ·exact ihm (ae t.nodes k) (fun x hx=>⟨(h.kok.ae k x hx).1,by have:=(h.kok.ae k x hx).2;omega⟩) (by omega) b1 y hy
     ·exact ih (fun x hx=>hl x (by simp[hx])) b2 hy
 exact key t.nodes.length [t.root] (by intro k hk;simp at hk;subst hk;exact h.root) (Nat.le_refl _) hr.nodup node ((hr.mem node).2 ⟨h0,hn⟩)
theorem jt{t:Tre}(h:aw t){node:Int}(h0:0≤node)(hn:node<t.nodes.length):aD t node=cg (aC t.nodes t.nodes.length [node]):=by
 obtain⟨pl,h1,h2,h3,h4⟩:=jC h.kok.ae t.nodes.length [node] 0 (List.replicate t.nodes.length 0) [] (by intro k hk;simp at hk;subst hk;exact⟨h0,hn⟩) (Nat.le_refl _) (by simp) (xz h h0 hn);unfold aD cg aQ;rw[iY];simp only[List.append_nil] at h2;rw[h2];simp[aY]
theorem xk:∀(F:Fo),F.bare→∀(f:Nat) (pre post:List Nod),pre.length+F.size≤f→aC (pre++(F.ar pre.length++post)) f (F.ba pre.length)=F
 | .nil,_,f,pre,post,_=>by simp[Fo.ba,ay]
 | .cons n k r,hb,0,pre,post,hf=>by simp[Fo.size] at hf
 | .cons n k r,hb,f+1,pre,post,hf=>by
  obtain⟨b1,b2,b3⟩:=hb;simp only[Fo.size] at hf;have ek:=xk k b2 f pre ({ n with kids:=k.ba pre.length } :: r.ar (pre.length+k.size+1)++post) (by omega);have el:(pre++(k.ar pre.length++[{ n with kids:=k.ba pre.length }])).length=pre.length+k.size+1:=by simp[Fo.bJ];omega
  have er:=xk r b3 (f+1) (pre++(k.ar pre.length++[{ n with kids:=k.ba pre.length }])) post (by rw[el];omega);rw[el] at er;have e1:pre++((Fo.cons n k r).ar pre.length++post)=pre++(k.ar pre.length++({ n with kids:=k.ba pre.length } :: r.ar (pre.length+k.size+1)++post)):=by simp[Fo.ar]
  have e2:pre++((Fo.cons n k r).ar pre.length++post)=pre++(k.ar pre.length++[{ n with kids:=k.ba pre.length }])++(r.ar (pre.length+k.size+1)++post):=by simp[Fo.ar]
  rw[←e1] at ek;rw[←e2] at er;have hget:(pre++((Fo.cons n k r).ar pre.length++post))[pre.length+k.size]?=some { n with kids:=k.ba pre.length }:=by
   rw[e1,List.getElem?_append_right (by omega),Nat.add_sub_cancel_left,List.getElem?_append_right (by rw[Fo.bJ];omega),Fo.bJ,Nat.sub_self];rfl
  have hch:=aH hget;simp only at hch;rw[Fo.ba,aK,er,←hch,ek]
  congr 1
  simp only[dat,Int.toNat_natCast,List.getD_eq_getElem?_getD,hget,Option.getD_some];rw[←b1]
theorem oY{n:Nod}{k:Fo}(hb:(Fo.cons n k .nil).bare):foT (cg (.cons n k .nil))=.cons n k .nil:=by
 have h:=xk (.cons n k .nil) hb ((Fo.cons n k .nil).ar 0).length [] [] (by simp[Fo.bJ]);simp only[List.length_nil,List.nil_append,List.append_nil] at h;unfold foT cg;simp only;conv=>rhs;rw[←h]
 congr 1
 simp only[Fo.ba,Fo.size]
 congr 1
 omega
theorem mA(i:Int):∀(l:List Int) (tk:List Bool),i≤tk.length→(∀k∈l,0≤k∧k<i)→(∀j:Nat,(tk.getD j false).toNat+l.count (j:Int)≤1)→∃tk',bX i l tk=some tk'
 | [],tk,_,_,_=>⟨tk,rfl⟩
 | k :: l,tk,hi,hk,hc=>by
  have h0:=hk k (by simp);have hck:=hc k.toNat;rw[show((k.toNat:Nat):Int)=k by omega,List.count_cons,beq_self_eq_true,if_pos rfl] at hck;have htk:tk.getD k.toNat false=false:=by
   cases hh:tk.getD k.toNat false with
   | false=>rfl
   | true=>rw[hh] at hck;simp at hck;omega
  unfold bX;rw[if_neg (by rw[htk];simp;omega)];refine mA i l _ (by simpa using hi) (fun x hx=>hk x (by simp[hx])) (fun j=>?_);have hcj:=hc j;rw[xO _ _ _ _ (by omega)];rw[List.count_cons] at hcj
  by_cases hj:k.toNat=j
  ·subst hj;rw[if_pos rfl];rw[show((k.toNat:Nat):Int)=k by omega] at hcj ⊢;simp at hcj ⊢;omega
  ·rw[if_neg hj];have:(k==(j:Int))=false:=by simp;omega
   rw[this] at hcj;simpa using hcj
def NOk(i:Nat)(l:List Nod):Prop:=∀(j:Nat) n,l[j]?=some n→fits n n.kids.length=true∧∀k∈n.kids,0≤k∧k<((i+j:Nat):Int)
theorem lB:∀(l:List Nod) (i:Nat) (tk:List Bool),i+l.length≤tk.length→NOk i l→(∀j:Nat,(tk.getD j false).toNat+(az l).count (j:Int)≤1)→∃tk',cn i l tk=some tk'
 | [],i,tk,_,_,_=>⟨tk,rfl⟩
 | n :: l,i,tk,hi,hn,hc=>by
  simp only[List.length_cons] at hi;have h0:=hn 0 n rfl;simp only[az,List.flatMap_cons,List.count_append] at hc;obtain⟨t1,ht1⟩:=mA i n.kids tk (by omega) (fun k hk=>by have:=h0.2 k hk;omega) (fun j=>by have:=hc j;omega);have hl:=jv i _ _ _ ht1;obtain⟨_,a2⟩:=gK i n.kids tk t1 (by omega) ht1;obtain⟨t2,ht2⟩:=lB l (i+1) t1 (by omega) (fun j m hj=>⟨(hn (j+1) m (by simpa using hj)).1,fun k hk=>by have:=(hn (j+1) m (by simpa using hj)).2 k hk;omega⟩)
   (fun j=>by rw[a2 j];have:=hc j;simp only[az];omega)
  refine⟨t2,?_⟩;unfold cn;rw[if_pos h0.1,ht1];exact ht2
theorem p8{t:Tre}(hr:0≤t.root∧t.root<t.nodes.length)(hn:NOk 0 t.nodes)(hc:∀i:Nat,i<t.nodes.length→(az t.nodes).count (i:Int)=if (i:Int)=t.root then 0 else 1):au t=true:=by
 have hz:∀j,(List.replicate t.nodes.length false).getD j false=false:=fun j=>by simp[List.getD_eq_getElem?_getD,List.getElem?_replicate];split<;>rfl
 have hle:∀j:Nat,(az t.nodes).count (j:Int)≤1:=by
  intro j
  by_cases hj:j<t.nodes.length
  ·rw[hc j hj];split<;>omega
  ·rw[List.count_eq_zero.2]
   ·omega
   ·intro hm;obtain⟨n,hn1,hn2⟩:=List.mem_flatMap.1 hm;obtain⟨i,hi⟩:=List.mem_iff_getElem?.1 hn1;have:=(hn i n hi).2 _ hn2;have:=(List.getElem?_eq_some_iff.1 hi).1;omega
 obtain⟨tk,htk⟩:=lB t.nodes 0 (List.replicate t.nodes.length false) (by simp) hn (fun j=>by rw[hz];have:=hle j;simpa using this);obtain⟨_,b⟩:=fO t.nodes 0 _ _ (by simp) htk;unfold au;rw[htk];simp only[Bool.and_eq_true,decide_eq_true_eq];refine⟨⟨hr.1,hr.2⟩,?_⟩;rw[List.all_eq_true];intro i hi;have hi:i<t.nodes.length:=by simpa using hi
 have hb:=b i;rw[hz,hc i hi] at hb
 by_cases h:(i:Int)=t.root
 ·rw[if_pos h] at hb;simp only[h,decide_true]
  cases hv:tk.getD i false with
  | false=>rfl
  | true=>rw[hv] at hb;simp at hb
 ·rw[if_neg h] at hb;simp only[h,decide_false]
  cases hv:tk.getD i false with
  | false=>rw[hv] at hb;simp at hb
  | true=>rfl
theorem aw.right{t:Tre}(h:aw t):au t=true:=
 p8 h.root (fun i n hi=>⟨h.fits i n hi,fun k hk=>by have:=h.kok i n hi k hk;omega⟩) h.count
theorem ta{t:Tre}:au t=true↔aw t:=⟨ao,aw.right⟩
theorem NOk.app{i:Nat}{a b:List Nod}(ha:NOk i a)(hb:NOk (i+a.length) b):NOk i (a++b):=by
 intro j n hj
 by_cases h:j<a.length
 ·rw[List.getElem?_append_left h] at hj;exact ha j n hj
 ·rw[List.getElem?_append_right (by omega)] at hj;obtain⟨h1,h2⟩:=hb _ n hj;exact⟨h1,fun k hk=>by have:=h2 k hk;omega⟩
theorem Fo.nok:∀(F:Fo) (o:Nat),F.fit=true→NOk o (F.ar o)
 | nil,o,_=>fun j n h=>by simp[ar] at h
 | cons n k r,o,h=>by
  simp only[fit,Bool.and_eq_true] at h;have hk:=nok k o h.1.2;have hr:=nok r (o+k.size+1) h.2;rw[ar];refine hk.app ?_;rw[show({ n with kids:=k.ba o } :: r.ar (o+k.size+1))=[{ n with kids:=k.ba o }]++r.ar (o+k.size+1) from rfl];refine NOk.app ?_ (by rw[bJ];simpa [Nat.add_assoc] using hr);intro j m hj
  cases j with
  | zero=>
   simp at hj;subst hj;refine⟨by rw[mg,eH];exact h.1.1,fun x hx=>?_⟩;have:=sZ k o x hx;rw[bJ];omega
  | succ j=>simp at hj
theorem Fo.counts:∀(F:Fo) (o:Nat) (x:Int),(az (F.ar o)).count x+(F.ba o).count x=if (o:Int)≤x∧x<((o+F.size:Nat):Int) then 1 else 0
 | nil,o,x=>by
  rw[if_neg (by simp only[size];omega)];rfl
 | cons n k r,o,x=>by
  have hk:=counts k o x;have hr:=counts r (o+k.size+1) x;have e:az ((Fo.cons n k r).ar o)=az (k.ar o)++(k.ba o++az (r.ar (o+k.size+1))):=by simp[az,ar]
  rw[e,ba,List.count_append,List.count_append,List.count_cons,size]
  by_cases h:((o+k.size:Nat):Int)=x
  ·rw[if_neg (by omega)] at hk hr;have hb:(((o+k.size:Nat):Int)==x)=true:=by simpa using h
   rw[hb,if_pos rfl,if_pos (by omega)];omega
  ·have hb:(((o+k.size:Nat):Int)==x)=false:=by simpa using h
   rw[hb];simp only[Bool.false_eq_true,if_false]
   by_cases h1:(o:Int)≤x∧x<((o+k.size:Nat):Int)
   ·rw[if_pos h1] at hk;rw[if_neg (by omega)] at hr;rw[if_pos (by omega)];omega
   ·rw[if_neg h1] at hk
    by_cases h2:((o+k.size+1:Nat):Int)≤x∧x<((o+k.size+1+r.size:Nat):Int)
    ·rw[if_pos h2] at hr;rw[if_pos (by omega)];omega
    ·rw[if_neg h2] at hr;rw[if_neg (by omega)];omega
theorem gH{n:Nod}{k:Fo}(h:(Fo.cons n k .nil).fit=true):au (cg (.cons n k .nil))=true:=by
 have hl:=Fo.bJ (.cons n k .nil) 0;refine p8 ?_ (Fo.nok _ 0 h) (fun i hi=>?_)
 ·simp only[cg,hl,Fo.size];omega
 ·have hc:=Fo.counts (.cons n k .nil) 0 (i:Int);have hi:i<(Fo.cons n k .nil).size:=by rw[←hl];exact hi
  show(az ((Fo.cons n k .nil).ar 0)).count (i:Int)=if (i:Int)=((Fo.cons n k .nil).size:Int) - 1 then 0 else 1
  rw[if_pos (by omega)] at hc;simp only[Fo.ba,List.count_cons,List.count_nil] at hc;have hsz:((Fo.cons n k .nil).size:Int) - 1=(k.size:Int):=by simp only[Fo.size];omega
  by_cases he:(i:Int)=(k.size:Int)
  ·rw[if_pos (he.trans hsz.symm)];have:(((0+k.size:Nat):Int)==(i:Int))=true:=by simp;omega
   rw[this] at hc;simp at hc;exact hc
  ·rw[if_neg (fun e=>he (e.trans hsz))];have:(((0+k.size:Nat):Int)==(i:Int))=false:=by simp;omega
   rw[this] at hc;simpa using hc
theorem oH{t:Tre}(h:aw t):∀(f:Nat) (l:List Int),(∀k∈l,0≤k∧k<f)→f≤t.nodes.length→(aC t.nodes f l).fit=true
 | 0,l,_,_=>rfl
 | f+1,l,hl,hf=>by
  induction l with
  | nil=>rfl
  | cons k l ih=>
   have hk:=hl k (by simp);rw[aK,Fo.fit,ih (fun x hx=>hl x (by simp[hx])),oH h f _ (fun x hx=>⟨(h.kok.ae k x hx).1,by have:=(h.kok.ae k x hx).2;omega⟩) (by omega),Bool.and_true,Bool.and_true];have hlt:k.toNat<t.nodes.length:=by omega
   have hg:=List.getElem?_eq_getElem hlt;have h1:=h.fits _ _ hg;have h2:=aH hg;rw[show((k.toNat:Nat):Int)=k by omega] at h2;have hlen:(aC t.nodes f (ae t.nodes k)).len=(ae t.nodes k).length:=by
    cases f with
    | zero=>
     cases hc:ae t.nodes k with
     | nil=>rfl
     | cons x l=>
      have:=h.kok.ae k x (by rw[hc];simp);omega
    | succ f=>exact zP _ _ _ (by omega)
   rw[hlen,←h2];simp only[dat,List.getD_eq_getElem?_getD,hg,Option.getD_some,mg];exact h1
theorem fu{t:Tre}(h:aw t):∃n k,foT t=.cons n k .nil∧(Fo.cons n k .nil).bare∧(Fo.cons n k .nil).fit=true:=by
 have hb:=gy t.nodes t.nodes.length [t.root];have hf:=oH h t.nodes.length [t.root] (by intro k hk;simp at hk;subst hk;exact h.root) (Nat.le_refl _);unfold foT;have hp:0<t.nodes.length:=by have:=h.root;omega
 obtain⟨f,hf'⟩:∃f,t.nodes.length=f+1:=⟨t.nodes.length - 1,by omega⟩
 rw[hf',aK,ay] at hb hf ⊢;exact⟨_,_,rfl,hb,hf⟩
theorem ph{t:Tre}(h:aw t):aD t t.root=cg (foT t):=jt h h.root.1 h.root.2
theorem Dm{t:Tre}(h:aw t):aw (cg (foT t))∧foT (cg (foT t))=foT t:=by
 obtain⟨n,k,e,hb,hf⟩:=fu h;rw[e];exact⟨ao (gH hf),oY hb⟩
theorem eN{t:Tre}(h:aw t):(foT t).size=t.nodes.length:=by
 unfold foT;rw[iY,(cP _ _ _).length_eq];exact(kg h).len
theorem Fo.sh:∀(F:Fo) (o d:Nat),(F.ba o).map (· + (d:Int))=F.ba (o+d)
 | nil,_,_=>rfl
 | cons n k r,o,d=>by
  simp only[ba,List.map_cons,sh r];rw[show o+d+k.size+1=o+k.size+1+d by omega]
  congr 1
  omega
theorem Fo.lz:∀(F:Fo) (o d:Nat),bl (F.ar o) (d:Int)=F.ar (o+d)
 | nil,_,_=>rfl
 | cons n k r,o,d=>by
  have hk:=lz k o d;have hr:=lz r (o+k.size+1) d;simp only[bl] at hk hr;simp only[bl,ar,List.map_append,List.map_cons,hk,hr,sh];rw[show o+d+k.size+1=o+k.size+1+d by omega]
theorem Fo.wy:∀(F G:Fo) (o:Nat),(F.app G).ar o=F.ar o++G.ar (o+F.size)
 | nil,_,_=>by simp[app,ar,size]
 | cons n k r,G,o=>by
  simp only[app,ar,wy r G,size,List.append_assoc,List.cons_append];rw[show o+(k.size+1+r.size)=o+k.size+1+r.size by omega]
theorem Fo.oX:∀(F G:Fo) (o:Nat),(F.app G).ba o=F.ba o++G.ba (o+F.size)
 | nil,_,_=>by simp[app,ba,size]
 | cons n k r,G,o=>by
  simp only[app,ba,oX r G,size,List.cons_append];rw[show o+(k.size+1+r.size)=o+k.size+1+r.size by omega]
theorem Fo.bY:∀(F G:Fo),(F.app G).size=F.size+G.size
 | nil,_=>by simp[app,size]
 | cons n k r,G=>by simp only[app,size,bY r G];omega
theorem Fo.dK:∀(F G:Fo),(F.app G).len=F.len+G.len
 | nil,_=>by simp[app,len]
 | cons n k r,G=>by simp only[app,len,dK r G];omega
theorem Fo.BS:∀(F G:Fo),(F.app G).fit=(F.fit&&G.fit)
 | nil,_=>by simp[app,fit]
 | cons n k r,G=>by simp only[app,fit,BS r G,Bool.and_assoc]
theorem Fo.zU:∀(F G:Fo),(F.app G).bare↔F.bare∧G.bare
 | nil,_=>by simp[app,bare]
 | cons n k r,G=>by simp only[app,bare,zU r G,and_assoc]
def foL:List Tre→Fo
 | []=>.nil
 | t :: l=>(foT t).app (foL l)
theorem B2:∀(l:List Tre) (F:Fo),(∀t∈l,au t=true)→iI l (F.ar 0) (F.ba 0)=some ((F.app (foL l)).ar 0,(F.app (foL l)).ba 0)
 | [],F,_=>by
  have e:∀F:Fo,F.app .nil=F:=by
   intro F
   induction F with
   | nil=>rfl
   | cons n k r _ ih=>rw[Fo.app,ih]
  simp[iI,foL,e]
 | t :: l,F,h=>by
  have ht:=h t (by simp);have hT:=ao ht;obtain⟨n,k,e,hb,hf⟩:=fu hT;have e1:F.ar 0++bl (aD t t.root).nodes ((F.ar 0).length)=(F.app (foT t)).ar 0:=by
   rw[ph hT,Fo.wy,Fo.bJ]
   congr 1
   exact Fo.lz _ 0 _
  have e2:F.ba 0++[(((F.ar 0).length+(aD t t.root).nodes.length:Nat):Int) - 1]=(F.app (foT t)).ba 0:=by
   rw[ph hT,Fo.oX,Fo.bJ]
   congr 1
   simp only[cg,Fo.bJ,e,Fo.ba,Fo.size]
   congr 1
   omega
  have ea:∀F G H:Fo,(F.app G).app H=F.app (G.app H):=by
   intro F G H
   induction F with
   | nil=>rfl
   | cons n k r _ ih=>simp only[Fo.app,ih]
  rw[iI,if_pos ht,e1,e2,B2 l _ (fun x hx=>h x (by simp[hx])),foL,ea]
theorem vi:∀(l:List Tre) (a:List Nod) (ks:List Int),(¬∀t∈l,au t=true)→iI l a ks=none
 | [],_,_,h=>absurd (by simp) h
 | t :: l,a,ks,h=>by
  unfold iI
  split
  ·rename_i ht;refine vi l _ _ (fun h2=>h fun x hx=>?_);rcases List.mem_cons.1 hx with rfl|hx
   ·exact ht
   ·exact h2 x hx
  ·rfl
theorem wV{n:Nod}{l:List Tre}(hf:fits n l.length=true)(h:∀t∈l,au t=true):ofP n l=(cg (.cons { n with kids:=[] } (foL l) .nil),true):=by
 have hg:=B2 l .nil h;simp only[Fo.ar,Fo.ba,Fo.app] at hg;unfold ofP;rw[if_pos hf,hg];simp only[cg,Fo.ar,Fo.size,Fo.bJ]
 congr 2
 omega
theorem Aq{n:Nod}{l:List Tre}(h:¬(fits n l.length=true∧∀t∈l,au t=true)):ofP n l=(.zero,false):=by
 unfold ofP
 split
 ·rename_i hf;rw[vi l [] [] (fun h2=>h ⟨hf,h2⟩)]
 ·rfl
theorem w7:∀(l:List Tre),(∀t∈l,au t=true)→(foL l).len=l.length∧(foL l).fit=true∧(foL l).bare
 | [],_=>⟨rfl,rfl,trivial⟩
 | t :: l,h=>by
  obtain⟨n,k,e,hb,hf⟩:=fu (ao (h t (by simp)));obtain⟨h1,h2,h3⟩:=w7 l (fun x hx=>h x (by simp[hx]));rw[foL,Fo.dK,Fo.BS,Fo.zU,e,h1,h2];exact⟨by simp[Fo.len];omega,by rw[hf];rfl,hb,h3⟩
theorem EH{n:Nod}{l:List Tre}(hf:fits n l.length=true)(h:∀t∈l,au t=true) :
  aw (ofP n l).1∧foT (ofP n l).1=.cons { n with kids:=[] } (foL l) .nil∧(ofP n l).2=true:=by
 obtain⟨h1,h2,h3⟩:=w7 l h;rw[wV hf h];refine⟨ao (gH ?_),oY ⟨rfl,h3,trivial⟩,rfl⟩;simp only[Fo.fit,h1,h2,Bool.and_true];exact hf
def dF:Nat:=17592186044416
def bV:Nat:=1466015503701
def Bts.wf(b:Bts):Prop:=(0≤b.a∧b.a<18446744073709551616)∧(0≤b.b∧b.b<18446744073709551616)∧(0≤b.c∧b.c<18446744073709551616)∧(0≤b.d∧b.d<18446744073709551616)
def F6(xs:List Int):Prop:=xs.length≤dF∧∀x∈xs,I64 x
structure Nod.wf(n:Nod):Prop where
 kind:0≤n.kind∧n.kind≤255
 set:n.set.wf
 text:n.text.size≤140737488355328
 min:I64 n.min
 max:I64 n.max
 kids:F6 n.kids
structure Tre.wf(t:Tre):Prop where
 len:t.nodes.length≤bV
 nodes:∀n∈t.nodes,n.wf
 root:I64 t.root
theorem Nod.cO:Nod.zero.wf:=⟨by decide,by unfold Bts.wf;decide,by decide,by unfold I64;decide,by unfold I64;decide,⟨by decide,by simp[Nod.zero]⟩⟩
theorem tG{ns:List Nod}(hn:∀n∈ns,n.wf):∀(l:List Int) (i:Nat) (pl:List Int),(∀x∈pl,0≤x∧x<(bV:Int))→i+l.length≤bV→∀n∈aY ns i pl l,n.wf∧∀k∈n.kids,0≤k∧k<(bV:Int)
 | [],_,_,_,_,n,h=>by simp[aY] at h
 | k :: l,i,pl,hp,hi,n,h=>by
  simp only[List.length_cons] at hi;have hp':∀x∈pl.set k.toNat (i:Int),0≤x∧x<(bV:Int):=by
   intro x hx;rcases List.mem_or_eq_of_mem_set hx with hx|rfl
   ·exact hp x hx
   ·omega
  simp only[aY,List.mem_cons] at h;rcases h with rfl|h
  ·have hz:(ns.getD k.toNat .zero).wf:=by
    rw[List.getD_eq_getElem?_getD]
    cases hg:ns[k.toNat]? with
    | some m=>exact hn m (List.mem_of_getElem? hg)
    | none=>exact Nod.cO
   have hk:∀y∈(ns.getD k.toNat .zero).kids.map (fun x=>(pl.set k.toNat (i:Int)).getD x.toNat 0),0≤y∧y<(bV:Int):=by
    intro y hy;obtain⟨x,hx,rfl⟩:=List.mem_map.1 hy;rw[List.getD_eq_getElem?_getD]
    cases hg:(pl.set k.toNat (i:Int))[x.toNat]? with
    | some z=>exact hp' z (List.mem_of_getElem? hg)
    | none=>exact⟨by decide,by decide⟩
   exact⟨⟨hz.kind,hz.set,hz.text,hz.min,hz.max,by simpa using hz.kids.1,fun y hy=>by have:=hk y hy;unfold I64;unfold bV at this;omega⟩,hk⟩
  ·exact tG hn l (i+1) _ hp' (by omega) n h
theorem gv{t:Tre}(ht:t.wf)(h:aw t){node:Int}(h0:0≤node)(hn:node<t.nodes.length):(aD t node).wf∧∀n∈(aD t node).nodes,∀k∈n.kids,0≤k∧k<(bV:Int):=by
 have hb:=fp h h0 hn;have hl:=ht.len;have hw:=tG ht.nodes (aQ t node) 0 (List.replicate t.nodes.length 0) (fun x hx=>by rw[List.eq_of_mem_replicate hx];exact⟨by decide,by decide⟩) (by omega);refine⟨⟨?_,fun n hn=>(hw n hn).1,?_⟩,fun n hn=>(hw n hn).2⟩
 ·show(aY _ _ _ _).length≤bV
  rw[gE];omega
 ·show I64 (((aQ t node).length:Int) - 1)
  unfold bV at hl;unfold I64;omega
theorem mI{t:Tre}(h:aw t){node:Int}(h0:0≤node)(hn:node<t.nodes.length):(aD t node).nodes.length≤t.nodes.length:=by
 show(aY _ _ _ _).length≤_
 rw[gE];exact fp h h0 hn
def tot(l:List Tre):Nat:=(l.map fun t=>t.nodes.length).sum
theorem oQ(t:Tre)(l:List Tre):tot (t :: l)=t.nodes.length+tot l:=by simp[tot]
theorem Iq{α:Type}(D r:List α)(d d':α){i:Nat}(h:D.length=i):(D++d :: r).set i d'=D++d' :: r:=by
 subst h;rw[List.set_append_right _ _ (Nat.le_refl _),Nat.sub_self,List.set_cons_zero]
theorem Fo.v9:∀F:Fo,0≤F.depth
 | nil=>Int.le_refl _
 | cons n k r=>by
  have:=v9 r;simp only[depth];omega
theorem Fe(ns:List Nod)(f:Nat)(k:Int)(l:List Int):aC ns (f+1) (k :: l)=(aC ns (f+1) [k]).app (aC ns (f+1) l):=by
 rw[aK,aK,ay];rfl
def Fo.dwf:Fo→Prop
 | nil=>True
 | cons n k r=>({ n with kids:=[] }:Nod).wf∧k.dwf∧r.dwf
theorem Fo.nR:∀F G:Fo,(F.app G).dwf↔F.dwf∧G.dwf
 | nil,G=>by simp[app,dwf]
 | cons n k r,G=>by simp only[app,dwf,nR r G,and_assoc]
theorem Fo.xd:∀F:Fo,F.len≤F.size
 | nil=>Nat.le_refl _
 | cons n k r=>by have:=xd r;simp only[len,size];omega
theorem Fo.F2:∀(F:Fo) (o:Nat),F.dwf→o+F.size≤bV→∀n∈F.ar o,n.wf
 | nil,o,_,_,n,h=>by simp[ar] at h
 | cons n k r,o,hd,hs,m,h=>by
  obtain⟨h1,h2,h3⟩:=hd;simp only[size] at hs;simp only[ar,List.mem_append,List.mem_cons] at h;rcases h with h|rfl|h
  ·exact F2 k o h2 (by omega) m h
  ·refine⟨h1.kind,h1.set,h1.text,h1.min,h1.max,?_,fun x hx=>?_⟩
   ·rw[eH];have:=xd k;unfold bV at hs;unfold dF;omega
   ·have:=sZ k o x hx;unfold bV at hs;unfold I64;omega
  ·exact F2 r _ h3 (by omega) m h
theorem Nod.wf.wf0{n:Nod}(h:n.wf):({ n with kids:=[] }:Nod).wf:=⟨h.kind,h.set,h.text,h.min,h.max,⟨by simp,by simp⟩⟩
theorem kE{ns:List Nod}(hn:∀n∈ns,n.wf):∀(f:Nat) (l:List Int),(aC ns f l).dwf
 | 0,l=>trivial
 | f+1,l=>by
  induction l with
  | nil=>exact trivial
  | cons k l ih=>
   refine⟨?_,kE hn f _,ih⟩;show Nod.wf { ns.getD k.toNat .zero with kids:=[] }
   rw[List.getD_eq_getElem?_getD]
   cases hg:ns[k.toNat]? with
   | some m=>exact(hn m (List.mem_of_getElem? hg)).wf0
   | none=>exact Nod.cO.wf0
theorem xA:∀{l:List Tre},(∀t∈l,t.wf)→(foL l).dwf
 | [],_=>trivial
 | t :: l,h=>(Fo.nR _ _).2 ⟨kE (h t (by simp)).nodes _ _,xA fun x hx=>h x (by simp[hx])⟩
theorem jj:∀{l:List Tre},(∀t∈l,au t=true)→(foL l).size=tot l
 | [],_=>rfl
 | t :: l,h=>by rw[foL,Fo.bY,oQ,eN (ao (h t (by simp))),jj fun x hx=>h x (by simp[hx])]
theorem rY{F:Fo}(h:F.dwf)(hs:F.size≤bV):(cg F).wf:=by
 refine⟨by show(F.ar 0).length≤bV;rw[Fo.bJ];exact hs,Fo.F2 F 0 h (by omega),?_⟩;show I64 ((F.size:Int) - 1)
 unfold bV at hs;unfold I64;omega
theorem Tre.cO:Tre.zero.wf:=⟨by decide,by simp[Tre.zero],by unfold I64;decide⟩
theorem Bu{n:Nod}{l:List Tre}(hn:n.wf)(hl:∀t∈l,t.wf)(ht:tot l+1≤bV):(ofP n l).1.wf:=by
 by_cases h:fits n l.length=true∧∀t∈l,au t=true
 ·rw[wV h.1 h.2];refine rY ⟨hn.wf0,xA hl,trivial⟩ ?_;simp only[Fo.size,jj h.2];omega
 ·rw[Aq h];exact Tre.cO
theorem Iz{n:Nod}{l:List Tre}:(ofP n l).1.nodes.length≤tot l+1:=by
 by_cases h:fits n l.length=true∧∀t∈l,au t=true
 ·rw[wV h.1 h.2];show(Fo.ar 0 _).length≤_
  rw[Fo.bJ];simp only[Fo.size,jj h.2];omega
 ·rw[Aq h];exact Nat.zero_le _
theorem DO:dA.wf:=⟨by decide,by unfold Bts.wf;decide,by decide,by unfold I64;decide,by unfold I64;decide,⟨by decide,by simp[dA]⟩⟩
theorem jP{t:Tre}(h:au t=true):aI t=aD t t.root:=by unfold aI;rw[if_pos h]
theorem l5{t:Tre}(h:au t=false):aI t=.zero:=by unfold aI;rw[if_neg (by rw[h];simp)]
theorem kh{t:Tre}(h:au t=true):aI t=cg (foT t):=by rw[jP h,ph (ao h)]
theorem qO(t:Tre):au (aI t)=au t:=by
 cases h:au t with
 | false=>rw[l5 h];rfl
 | true=>rw[kh h];exact ta.2 (Dm (ao h)).1
theorem vg{t:Tre}(h:t.wf):(aI t).wf:=by
 cases hr:au t with
 | false=>rw[l5 hr];exact⟨by simp[Tre.zero],by simp[Tre.zero],by simp[Tre.zero,I64]⟩
 | true=>
  have hR:=ao hr;rw[jP hr];exact(gv h hR hR.root.1 hR.root.2).1
def mD(t:Tre):Nod:=if au t=true then { t.nodes.getD t.root.toNat .zero with kids:=[] } else .zero
def Fo.trees:Fo→List Tre
 | .nil=>[]
 | .cons m j r=>cg (.cons m j .nil) :: r.trees
def Fo.MA:Fo→List Tre
 | .nil=>[]
 | .cons _ k _=>k.trees
def aN(t:Tre):List Tre:=if au t=true then (foT t).MA else []
theorem Fo.xp:∀F:Fo,F.app .nil=F
 | .nil=>rfl
 | .cons m j r=>by rw[Fo.app,Fo.xp r]
theorem Fo.pM:∀F G H:Fo,(F.app G).app H=F.app (G.app H)
 | .nil,G,H=>rfl
 | .cons m j r,G,H=>by simp only[Fo.app,Fo.pM r G H]
theorem Fo.sY:∀F:Fo,F.len≤F.size
 | .nil=>Nat.le_refl _
 | .cons m j r=>by have:=Fo.sY r;simp only[Fo.len,Fo.size];omega
theorem Fo.qg:∀(F G:Fo),(F.app G).trees=F.trees++G.trees
 | .nil,G=>rfl
 | .cons m j r,G=>by simp[Fo.app,Fo.trees,Fo.qg r G]
theorem Fo.iN:∀(F:Fo),F.trees.length=F.len
 | .nil=>rfl
 | .cons m j r=>by simp[Fo.trees,Fo.len,Fo.iN r]
def mW(l:List Tre):Bool:=l.all fun t=>au t
theorem gQ{l:List Tre}:mW l=true↔∀t∈l,au t=true:=by simp[mW]
theorem LH(n:Nod)(l:List Tre):(ofP n l).2=(fits n l.length&&mW l):=by
 by_cases h:fits n l.length=true∧∀t∈l,au t=true
 ·rw[wV h.1 h.2,h.1,gQ.2 h.2];rfl
 ·rw[Aq h]
  cases h1:fits n l.length with
  | false=>rfl
  | true=>
   cases h2:mW l with
   | false=>rfl
   | true=>exact absurd ⟨h1,gQ.1 h2⟩ h
theorem IJ{t:Tre}(h:au t=true):∃F,foT t=.cons (mD t) F .nil:=by
 have hR:=ao h;have h0:=hR.root;obtain⟨N,hN⟩:∃N,t.nodes.length=N+1:=⟨t.nodes.length - 1,by omega⟩
 refine⟨aC t.nodes N (ae t.nodes t.root),?_⟩;unfold foT;rw[hN,aK,ay,mD,if_pos h];rfl
theorem kQ:∀{F:Fo},F.fit=true→F.bare→(∀t∈F.trees,au t=true)∧foL F.trees=F
 | .nil,_,_=>⟨by simp[Fo.trees],rfl⟩
 | .cons m j r,hf,hb=>by
  simp only[Fo.fit,Bool.and_eq_true] at hf;obtain⟨h1,h2⟩:=kQ (F:=r) hf.2 hb.2.2;have hr:au (cg (.cons m j .nil))=true:=gH (by simp only[Fo.fit,hf.1.1,hf.1.2];rfl);refine⟨fun t ht=>?_,?_⟩
  ·rcases List.mem_cons.1 ht with rfl|ht
   ·exact hr
   ·exact h1 t ht
  ·rw[Fo.trees,foL,h2,oY ⟨hb.1,hb.2.1,trivial⟩];rfl
theorem He{t:Tre}(h:t.wf):∀x∈aN t,x.wf:=by
 intro x hx
 cases hr:au t with
 | false=>rw[aN,if_neg (by rw[hr];simp)] at hx;simp at hx
 | true=>
  obtain⟨n,k,e,hb,hf⟩:=fu (ao hr);have hsz:=eN (ao hr);have hd:(foT t).dwf:=kE h.nodes _ _;have hl:=h.len;rw[e] at hsz hd;simp only[Fo.size] at hsz;rw[aN,if_pos hr,e] at hx;have key:∀F:Fo,F.dwf→F.size≤bV→∀x∈F.trees,x.wf:=by
   intro F
   induction F with
   | nil=>intro _ _ x hx;simp[Fo.trees] at hx
   | cons m j r _ ih=>
    intro hd hs x hx;simp only[Fo.size] at hs;rcases List.mem_cons.1 hx with rfl|hx
    ·exact rY ⟨hd.1,hd.2.1,trivial⟩ (by simp only[Fo.size];omega)
    ·exact ih hd.2.2 (by omega) x hx
  exact key k hd.2.1 (by omega) x hx
theorem je(t:Tre):tot (aN t)≤t.nodes.length - 1∧(aN t).length≤t.nodes.length:=by
 cases hr:au t with
 | false=>rw[aN,if_neg (by rw[hr];simp)];simp[tot]
 | true=>
  obtain⟨n,k,e,hb,hf⟩:=fu (ao hr);have hsz:=eN (ao hr);simp only[Fo.fit,Bool.and_eq_true] at hf;obtain⟨h1,h2⟩:=kQ (F:=k) hf.1.2 hb.2.1;have h3:=jj h1;have h4:=Fo.xd k;rw[h2] at h3;rw[e] at hsz;simp only[Fo.size] at hsz;rw[aN,if_pos hr,e];show tot k.trees≤_∧k.trees.length≤_
  rw[←h3,Fo.iN];omega
end Go.aa
end
